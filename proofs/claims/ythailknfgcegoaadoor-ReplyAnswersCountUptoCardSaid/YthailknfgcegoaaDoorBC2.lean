/-
  Texts of mine, one behind the other (G4, LibE).
-/
import Derived.Test.YthailknfgcegoaaDoorBC1
import Derived.Test.YthailknfgcegoaaDoorEngZ
import Derived.Test.YthailknfgcegoaaDoorProg
import Derived.KernelRfl
/-
  Bodies of functions and what they compute, printed by programs of mine (wip/tool/gen.py, sc.py) out of the translation; the kernel holds each against the translation.
-/
namespace Go.Proofs.YthailknfgcegoaaDoor
open Go.RowKit
set_option linter.unusedSimpArgs false
set_option linter.unusedVariables false
structure Tapi_Spot where
  fElement : Int
  fRepeat : Int
  fPart : Int
  deriving DecidableEq
def rTapi_Spot (x : Tapi_Spot) : List DV := [.int .i64 x.fElement, .int .i64 x.fRepeat, .int .i64 x.fPart]
attribute [push_cast] rTapi_Spot
theorem fT_Tapi_Spot {d0 d1 d2 : DV} {v0 : Int} {v1 : Int} {v2 : Int} (h0 : d0 = .int .i64 v0) (h1 : d1 = .int .i64 v1) (h2 : d2 = .int .i64 v2) : [d0, d1, d2] = rTapi_Spot ⟨v0, v1, v2⟩ := by unfold rTapi_Spot; simp only [h0, h1, h2, List.cons_append, List.nil_append, List.append_assoc, List.append_nil]
theorem cT_Tapi_Spot {d0 d1 d2 : SV} {v0 : Int} {v1 : Int} {v2 : Int} (h0 : svle d0 (.d (.int .i64 v0))) (h1 : svle d1 (.d (.int .i64 v1))) (h2 : svle d2 (.d (.int .i64 v2))) : cellsle [d0, d1, d2] (dR (rTapi_Spot ⟨v0, v1, v2⟩)) := by have h := (cellsle.append (cellsle.consS h0 cellsle.nil) (cellsle.append (cellsle.consS h1 cellsle.nil) (cellsle.consS h2 cellsle.nil))); simpa only [rTapi_Spot, dR, List.map_append, List.map_cons, List.map_nil, List.cons_append, List.nil_append, List.append_assoc, List.append_nil] using h
theorem eT_Tapi_Spot {d0 d1 d2 : SV} {v0 : Int} {v1 : Int} {v2 : Int} (h0 : d0 = .d (.int .i64 v0)) (h1 : d1 = .d (.int .i64 v1)) (h2 : d2 = .d (.int .i64 v2)) : [d0, d1, d2] = dR (rTapi_Spot ⟨v0, v1, v2⟩) := by simp only [rTapi_Spot, dR, List.map_append, List.map_cons, List.map_nil, List.cons_append, List.nil_append, List.append_assoc, List.append_nil, h0, h1, h2]

structure Tapi_Flaw where
  fKind : Int
  fSegment : Int
  fAt : Tapi_Spot
  fName : List UInt8
  deriving DecidableEq
def rTapi_Flaw (x : Tapi_Flaw) : List DV := [.int .i64 x.fKind, .int .i64 x.fSegment] ++ rTapi_Spot x.fAt ++ [.str x.fName]
attribute [push_cast] rTapi_Flaw
theorem fT_Tapi_Flaw {d0 d1 d2 d3 d4 d5 : DV} {v0 : Int} {v1 : Int} {v2 : Tapi_Spot} {v3 : List UInt8} (h0 : d0 = .int .i64 v0) (h1 : d1 = .int .i64 v1) (h2 : [d2, d3, d4] = rTapi_Spot v2) (h3 : d5 = .str v3) : [d0, d1, d2, d3, d4, d5] = rTapi_Flaw ⟨v0, v1, v2, v3⟩ := by unfold rTapi_Flaw; simp only [h0, h1, ← h2, h3, List.cons_append, List.nil_append, List.append_assoc, List.append_nil]
theorem cT_Tapi_Flaw {d0 d1 d2 d3 d4 d5 : SV} {v0 : Int} {v1 : Int} {v2 : Tapi_Spot} {v3 : List UInt8} (h0 : svle d0 (.d (.int .i64 v0))) (h1 : svle d1 (.d (.int .i64 v1))) (h2 : cellsle [d2, d3, d4] (dR (rTapi_Spot v2))) (h3 : svle d5 (.d (.str v3))) : cellsle [d0, d1, d2, d3, d4, d5] (dR (rTapi_Flaw ⟨v0, v1, v2, v3⟩)) := by have h := (cellsle.append (cellsle.consS h0 cellsle.nil) (cellsle.append (cellsle.consS h1 cellsle.nil) (cellsle.append h2 (cellsle.consS h3 cellsle.nil)))); simpa only [rTapi_Flaw, dR, List.map_append, List.map_cons, List.map_nil, List.cons_append, List.nil_append, List.append_assoc, List.append_nil] using h

structure Tapi_MessageReply where
  fRef : List UInt8
  fVerdict : Int
  fUnknown : Bool
  fFlaws : List Tapi_Flaw
  fFailing : List (List UInt8)
  deriving DecidableEq
def rTapi_MessageReply (x : Tapi_MessageReply) : List DV := [.str x.fRef, .int .i64 x.fVerdict, .bool x.fUnknown, .slice (List.map rTapi_Flaw x.fFlaws), .slice (List.map rowS x.fFailing)]
attribute [push_cast] rTapi_MessageReply
theorem fT_Tapi_MessageReply {d0 d1 d2 d3 d4 : DV} {v0 : List UInt8} {v1 : Int} {v2 : Bool} {v3 : List Tapi_Flaw} {v4 : List (List UInt8)} (h0 : d0 = .str v0) (h1 : d1 = .int .i64 v1) (h2 : d2 = .bool v2) (h3 : d3 = .slice (List.map rTapi_Flaw v3)) (h4 : d4 = .slice (List.map rowS v4)) : [d0, d1, d2, d3, d4] = rTapi_MessageReply ⟨v0, v1, v2, v3, v4⟩ := by unfold rTapi_MessageReply; simp only [h0, h1, h2, h3, h4, List.cons_append, List.nil_append, List.append_assoc, List.append_nil]
theorem cT_Tapi_MessageReply {d0 d1 d2 d3 d4 : SV} {v0 : List UInt8} {v1 : Int} {v2 : Bool} {v3 : List Tapi_Flaw} {v4 : List (List UInt8)} (h0 : svle d0 (.d (.str v0))) (h1 : svle d1 (.d (.int .i64 v1))) (h2 : svle d2 (.d (.bool v2))) (h3 : svle d3 (.d (.slice (List.map rTapi_Flaw v3)))) (h4 : svle d4 (.d (.slice (List.map rowS v4)))) : cellsle [d0, d1, d2, d3, d4] (dR (rTapi_MessageReply ⟨v0, v1, v2, v3, v4⟩)) := by have h := (cellsle.append (cellsle.consS h0 cellsle.nil) (cellsle.append (cellsle.consS h1 cellsle.nil) (cellsle.append (cellsle.consS h2 cellsle.nil) (cellsle.append (cellsle.consS h3 cellsle.nil) (cellsle.consS h4 cellsle.nil))))); simpa only [rTapi_MessageReply, dR, List.map_append, List.map_cons, List.map_nil, List.cons_append, List.nil_append, List.append_assoc, List.append_nil] using h
theorem eT_Tapi_MessageReply {d0 d1 d2 d3 d4 : SV} {v0 : List UInt8} {v1 : Int} {v2 : Bool} {v3 : List Tapi_Flaw} {v4 : List (List UInt8)} (h0 : d0 = .d (.str v0)) (h1 : d1 = .d (.int .i64 v1)) (h2 : d2 = .d (.bool v2)) (h3 : d3 = .d (.slice (List.map rTapi_Flaw v3))) (h4 : d4 = .d (.slice (List.map rowS v4))) : [d0, d1, d2, d3, d4] = dR (rTapi_MessageReply ⟨v0, v1, v2, v3, v4⟩) := by simp only [rTapi_MessageReply, dR, List.map_append, List.map_cons, List.map_nil, List.cons_append, List.nil_append, List.append_assoc, List.append_nil, h0, h1, h2, h3, h4]

structure Tapi_GroupReply where
  fRef : List UInt8
  fVerdict : Int
  fMessages : List Tapi_MessageReply
  deriving DecidableEq
def rTapi_GroupReply (x : Tapi_GroupReply) : List DV := [.str x.fRef, .int .i64 x.fVerdict, .slice (List.map rTapi_MessageReply x.fMessages)]
attribute [push_cast] rTapi_GroupReply
theorem fT_Tapi_GroupReply {d0 d1 d2 : DV} {v0 : List UInt8} {v1 : Int} {v2 : List Tapi_MessageReply} (h0 : d0 = .str v0) (h1 : d1 = .int .i64 v1) (h2 : d2 = .slice (List.map rTapi_MessageReply v2)) : [d0, d1, d2] = rTapi_GroupReply ⟨v0, v1, v2⟩ := by unfold rTapi_GroupReply; simp only [h0, h1, h2, List.cons_append, List.nil_append, List.append_assoc, List.append_nil]
theorem cT_Tapi_GroupReply {d0 d1 d2 : SV} {v0 : List UInt8} {v1 : Int} {v2 : List Tapi_MessageReply} (h0 : svle d0 (.d (.str v0))) (h1 : svle d1 (.d (.int .i64 v1))) (h2 : svle d2 (.d (.slice (List.map rTapi_MessageReply v2)))) : cellsle [d0, d1, d2] (dR (rTapi_GroupReply ⟨v0, v1, v2⟩)) := by have h := (cellsle.append (cellsle.consS h0 cellsle.nil) (cellsle.append (cellsle.consS h1 cellsle.nil) (cellsle.consS h2 cellsle.nil))); simpa only [rTapi_GroupReply, dR, List.map_append, List.map_cons, List.map_nil, List.cons_append, List.nil_append, List.append_assoc, List.append_nil] using h
theorem eT_Tapi_GroupReply {d0 d1 d2 : SV} {v0 : List UInt8} {v1 : Int} {v2 : List Tapi_MessageReply} (h0 : d0 = .d (.str v0)) (h1 : d1 = .d (.int .i64 v1)) (h2 : d2 = .d (.slice (List.map rTapi_MessageReply v2))) : [d0, d1, d2] = dR (rTapi_GroupReply ⟨v0, v1, v2⟩) := by simp only [rTapi_GroupReply, dR, List.map_append, List.map_cons, List.map_nil, List.cons_append, List.nil_append, List.append_assoc, List.append_nil, h0, h1, h2]

structure Tapi_Reply where
  fRef : List UInt8
  fVerdict : Int
  fGroups : List Tapi_GroupReply
  deriving DecidableEq
def rTapi_Reply (x : Tapi_Reply) : List DV := [.str x.fRef, .int .i64 x.fVerdict, .slice (List.map rTapi_GroupReply x.fGroups)]
attribute [push_cast] rTapi_Reply
theorem fT_Tapi_Reply {d0 d1 d2 : DV} {v0 : List UInt8} {v1 : Int} {v2 : List Tapi_GroupReply} (h0 : d0 = .str v0) (h1 : d1 = .int .i64 v1) (h2 : d2 = .slice (List.map rTapi_GroupReply v2)) : [d0, d1, d2] = rTapi_Reply ⟨v0, v1, v2⟩ := by unfold rTapi_Reply; simp only [h0, h1, h2, List.cons_append, List.nil_append, List.append_assoc, List.append_nil]
theorem cT_Tapi_Reply {d0 d1 d2 : SV} {v0 : List UInt8} {v1 : Int} {v2 : List Tapi_GroupReply} (h0 : svle d0 (.d (.str v0))) (h1 : svle d1 (.d (.int .i64 v1))) (h2 : svle d2 (.d (.slice (List.map rTapi_GroupReply v2)))) : cellsle [d0, d1, d2] (dR (rTapi_Reply ⟨v0, v1, v2⟩)) := by have h := (cellsle.append (cellsle.consS h0 cellsle.nil) (cellsle.append (cellsle.consS h1 cellsle.nil) (cellsle.consS h2 cellsle.nil))); simpa only [rTapi_Reply, dR, List.map_append, List.map_cons, List.map_nil, List.cons_append, List.nil_append, List.append_assoc, List.append_nil] using h
theorem eT_Tapi_Reply {d0 d1 d2 : SV} {v0 : List UInt8} {v1 : Int} {v2 : List Tapi_GroupReply} (h0 : d0 = .d (.str v0)) (h1 : d1 = .d (.int .i64 v1)) (h2 : d2 = .d (.slice (List.map rTapi_GroupReply v2))) : [d0, d1, d2] = dR (rTapi_Reply ⟨v0, v1, v2⟩) := by simp only [rTapi_Reply, dR, List.map_append, List.map_cons, List.map_nil, List.cons_append, List.nil_append, List.append_assoc, List.append_nil, h0, h1, h2]

structure Tapi_BookEvent where
  fKind : Int
  fTime : Int
  fDue : Int
  fRef : List UInt8
  fVerdict : Int
  deriving DecidableEq
def rTapi_BookEvent (x : Tapi_BookEvent) : List DV := [.int .i64 x.fKind, .int .i64 x.fTime, .int .i64 x.fDue, .str x.fRef, .int .i64 x.fVerdict]
attribute [push_cast] rTapi_BookEvent
theorem fT_Tapi_BookEvent {d0 d1 d2 d3 d4 : DV} {v0 : Int} {v1 : Int} {v2 : Int} {v3 : List UInt8} {v4 : Int} (h0 : d0 = .int .i64 v0) (h1 : d1 = .int .i64 v1) (h2 : d2 = .int .i64 v2) (h3 : d3 = .str v3) (h4 : d4 = .int .i64 v4) : [d0, d1, d2, d3, d4] = rTapi_BookEvent ⟨v0, v1, v2, v3, v4⟩ := by unfold rTapi_BookEvent; simp only [h0, h1, h2, h3, h4, List.cons_append, List.nil_append, List.append_assoc, List.append_nil]
theorem cT_Tapi_BookEvent {d0 d1 d2 d3 d4 : SV} {v0 : Int} {v1 : Int} {v2 : Int} {v3 : List UInt8} {v4 : Int} (h0 : svle d0 (.d (.int .i64 v0))) (h1 : svle d1 (.d (.int .i64 v1))) (h2 : svle d2 (.d (.int .i64 v2))) (h3 : svle d3 (.d (.str v3))) (h4 : svle d4 (.d (.int .i64 v4))) : cellsle [d0, d1, d2, d3, d4] (dR (rTapi_BookEvent ⟨v0, v1, v2, v3, v4⟩)) := by have h := (cellsle.append (cellsle.consS h0 cellsle.nil) (cellsle.append (cellsle.consS h1 cellsle.nil) (cellsle.append (cellsle.consS h2 cellsle.nil) (cellsle.append (cellsle.consS h3 cellsle.nil) (cellsle.consS h4 cellsle.nil))))); simpa only [rTapi_BookEvent, dR, List.map_append, List.map_cons, List.map_nil, List.cons_append, List.nil_append, List.append_assoc, List.append_nil] using h
theorem eT_Tapi_BookEvent {d0 d1 d2 d3 d4 : SV} {v0 : Int} {v1 : Int} {v2 : Int} {v3 : List UInt8} {v4 : Int} (h0 : d0 = .d (.int .i64 v0)) (h1 : d1 = .d (.int .i64 v1)) (h2 : d2 = .d (.int .i64 v2)) (h3 : d3 = .d (.str v3)) (h4 : d4 = .d (.int .i64 v4)) : [d0, d1, d2, d3, d4] = dR (rTapi_BookEvent ⟨v0, v1, v2, v3, v4⟩) := by simp only [rTapi_BookEvent, dR, List.map_append, List.map_cons, List.map_nil, List.cons_append, List.nil_append, List.append_assoc, List.append_nil, h0, h1, h2, h3, h4]

structure Tapi_Sending where
  fRef : List UInt8
  fTime : Int
  fDue : Int
  fAnswer : Int
  fVerdict : Int
  deriving DecidableEq
def rTapi_Sending (x : Tapi_Sending) : List DV := [.str x.fRef, .int .i64 x.fTime, .int .i64 x.fDue, .int .i64 x.fAnswer, .int .i64 x.fVerdict]
attribute [push_cast] rTapi_Sending
theorem fT_Tapi_Sending {d0 d1 d2 d3 d4 : DV} {v0 : List UInt8} {v1 : Int} {v2 : Int} {v3 : Int} {v4 : Int} (h0 : d0 = .str v0) (h1 : d1 = .int .i64 v1) (h2 : d2 = .int .i64 v2) (h3 : d3 = .int .i64 v3) (h4 : d4 = .int .i64 v4) : [d0, d1, d2, d3, d4] = rTapi_Sending ⟨v0, v1, v2, v3, v4⟩ := by unfold rTapi_Sending; simp only [h0, h1, h2, h3, h4, List.cons_append, List.nil_append, List.append_assoc, List.append_nil]
theorem cT_Tapi_Sending {d0 d1 d2 d3 d4 : SV} {v0 : List UInt8} {v1 : Int} {v2 : Int} {v3 : Int} {v4 : Int} (h0 : svle d0 (.d (.str v0))) (h1 : svle d1 (.d (.int .i64 v1))) (h2 : svle d2 (.d (.int .i64 v2))) (h3 : svle d3 (.d (.int .i64 v3))) (h4 : svle d4 (.d (.int .i64 v4))) : cellsle [d0, d1, d2, d3, d4] (dR (rTapi_Sending ⟨v0, v1, v2, v3, v4⟩)) := by have h := (cellsle.append (cellsle.consS h0 cellsle.nil) (cellsle.append (cellsle.consS h1 cellsle.nil) (cellsle.append (cellsle.consS h2 cellsle.nil) (cellsle.append (cellsle.consS h3 cellsle.nil) (cellsle.consS h4 cellsle.nil))))); simpa only [rTapi_Sending, dR, List.map_append, List.map_cons, List.map_nil, List.cons_append, List.nil_append, List.append_assoc, List.append_nil] using h
theorem eT_Tapi_Sending {d0 d1 d2 d3 d4 : SV} {v0 : List UInt8} {v1 : Int} {v2 : Int} {v3 : Int} {v4 : Int} (h0 : d0 = .d (.str v0)) (h1 : d1 = .d (.int .i64 v1)) (h2 : d2 = .d (.int .i64 v2)) (h3 : d3 = .d (.int .i64 v3)) (h4 : d4 = .d (.int .i64 v4)) : [d0, d1, d2, d3, d4] = dR (rTapi_Sending ⟨v0, v1, v2, v3, v4⟩) := by simp only [rTapi_Sending, dR, List.map_append, List.map_cons, List.map_nil, List.cons_append, List.nil_append, List.append_assoc, List.append_nil, h0, h1, h2, h3, h4]

structure Tapi_Standing where
  fWaits : Int
  fLate : Int
  fTaken : Int
  fFlawed : Int
  fRefused : Int
  fOverdue : Int
  deriving DecidableEq
def rTapi_Standing (x : Tapi_Standing) : List DV := [.int .i64 x.fWaits, .int .i64 x.fLate, .int .i64 x.fTaken, .int .i64 x.fFlawed, .int .i64 x.fRefused, .int .i64 x.fOverdue]
attribute [push_cast] rTapi_Standing
theorem fT_Tapi_Standing {d0 d1 d2 d3 d4 d5 : DV} {v0 : Int} {v1 : Int} {v2 : Int} {v3 : Int} {v4 : Int} {v5 : Int} (h0 : d0 = .int .i64 v0) (h1 : d1 = .int .i64 v1) (h2 : d2 = .int .i64 v2) (h3 : d3 = .int .i64 v3) (h4 : d4 = .int .i64 v4) (h5 : d5 = .int .i64 v5) : [d0, d1, d2, d3, d4, d5] = rTapi_Standing ⟨v0, v1, v2, v3, v4, v5⟩ := by unfold rTapi_Standing; simp only [h0, h1, h2, h3, h4, h5, List.cons_append, List.nil_append, List.append_assoc, List.append_nil]
theorem cT_Tapi_Standing {d0 d1 d2 d3 d4 d5 : SV} {v0 : Int} {v1 : Int} {v2 : Int} {v3 : Int} {v4 : Int} {v5 : Int} (h0 : svle d0 (.d (.int .i64 v0))) (h1 : svle d1 (.d (.int .i64 v1))) (h2 : svle d2 (.d (.int .i64 v2))) (h3 : svle d3 (.d (.int .i64 v3))) (h4 : svle d4 (.d (.int .i64 v4))) (h5 : svle d5 (.d (.int .i64 v5))) : cellsle [d0, d1, d2, d3, d4, d5] (dR (rTapi_Standing ⟨v0, v1, v2, v3, v4, v5⟩)) := by have h := (cellsle.append (cellsle.consS h0 cellsle.nil) (cellsle.append (cellsle.consS h1 cellsle.nil) (cellsle.append (cellsle.consS h2 cellsle.nil) (cellsle.append (cellsle.consS h3 cellsle.nil) (cellsle.append (cellsle.consS h4 cellsle.nil) (cellsle.consS h5 cellsle.nil)))))); simpa only [rTapi_Standing, dR, List.map_append, List.map_cons, List.map_nil, List.cons_append, List.nil_append, List.append_assoc, List.append_nil] using h
theorem eT_Tapi_Standing {d0 d1 d2 d3 d4 d5 : SV} {v0 : Int} {v1 : Int} {v2 : Int} {v3 : Int} {v4 : Int} {v5 : Int} (h0 : d0 = .d (.int .i64 v0)) (h1 : d1 = .d (.int .i64 v1)) (h2 : d2 = .d (.int .i64 v2)) (h3 : d3 = .d (.int .i64 v3)) (h4 : d4 = .d (.int .i64 v4)) (h5 : d5 = .d (.int .i64 v5)) : [d0, d1, d2, d3, d4, d5] = dR (rTapi_Standing ⟨v0, v1, v2, v3, v4, v5⟩) := by simp only [rTapi_Standing, dR, List.map_append, List.map_cons, List.map_nil, List.cons_append, List.nil_append, List.append_assoc, List.append_nil, h0, h1, h2, h3, h4, h5]

/-- interchange/kit.Outside -/
def sc_kit_Outside : SC :=
  (.seq (.reg [.r 6 (.mv (.c (.d (.bool false))))])
  (.seq (.reg (.r 7 (.mv (.t 0)) :: .r 8 (.mv (.t 1)) :: .r 9 (.bin .lss (.t 7) (.t 8)) :: .r 10 (.mv (.t 9)) :: gapp [11, 12, 13] 10 false (.r 11 (.mv (.t 0)) :: .r 12 (.mv (.t 2)) :: .r 13 (.bin .gtr (.t 11) (.t 12)) :: []) (.r 14 (.pick (.t 10) (.c (.d (.bool true))) (.t 13)) :: .r 6 (.mv (.t 14)) :: [])))
  .ret))
theorem fit_kit_Outside : fits Tryd.prog 70 Tryd.f70 sc_kit_Outside [.t 6] 3 = true := by kernel_rfl

/-- interchange/reply.groupFault$1 -/
def sc_reply_groupFault_1 : SC :=
  (.seq (.reg [.r 2 (.boxI (.t 0)),
     .r 3 (.mv (.c (.d (.bool false))))])
  (.seq (.reg [.r 4 (.fld 0 (.t 2)),
     .o 5 (.ld1 (.t 4)),
     .r 6 (.fld 0 (.t 1)),
     .o 7 (.ld1 (.t 6)),
     .r 8 (.bin .eql (.t 5) (.t 7)),
     .r 3 (.mv (.t 8))])
  .ret))
theorem fit_reply_groupFault_1 : fits Tryd.prog 91 Tryd.f91 sc_reply_groupFault_1 [.t 3] 2 = true := by kernel_rfl

def sc_slices_IndexFunc_interchange_api_GroupReply_interchange_api_GroupReply_L1 : SC :=
  (.seq (.reg [.r 9 (.bin .lss (.t 8) (.t 7))])
  (.seq (.cond (.t 9)
    .skip
    (.exit 0))
  (.seq (.block 1 (.seq (.reg [.r 10 (.mv (.t 8)),
       .r 5 (.mv (.t 10))])
    (.seq (.reg [.r 11 (.mv (.t 1)),
       .r 12 (.mv (.t 0)),
       .r 13 (.mv (.t 5)),
       .r 14 (.idx 3 (.t 12) (.t 13)),
       .o 15 (.ldA 3 (.t 14)),
       .c 16 (.t 11) [.t 15]])
    (.cond (.t 16)
      (.seq (.reg [.r 17 (.mv (.t 5)),
         .r 4 (.mv (.t 17))])
      .ret)
      .skip))))
  (.reg [.r 18 (.bin .add (.t 8) (.c (.d (.int .i64 1)))),
     .r 8 (.mv (.t 18))]))))
def sc_slices_IndexFunc_interchange_api_GroupReply_interchange_api_GroupReply_B1 : SC := .block 0 (.loop sc_slices_IndexFunc_interchange_api_GroupReply_interchange_api_GroupReply_L1)
/-- slices.IndexFunc[[]interchange/api.GroupReply,interchange/api.GroupReply] -/
def sc_slices_IndexFunc_interchange_api_GroupReply_interchange_api_GroupReply : SC :=
  (.seq (.reg [.r 4 (.mv (.c (.d (.int .i64 0))))])
  (.seq (.seq (.reg [.r 6 (.mv (.t 0)),
     .r 7 (.len (.t 6)),
     .r 8 (.mv (.c (.d (.int .i64 0))))])
  sc_slices_IndexFunc_interchange_api_GroupReply_interchange_api_GroupReply_B1)
  (.seq (.reg [.r 4 (.mv (.c (.d (.int .i64 (-1)))))])
  .ret)))
theorem fit_slices_IndexFunc_interchange_api_GroupReply_interchange_api_GroupReply : fits Tryd.prog 119 Tryd.f119 sc_slices_IndexFunc_interchange_api_GroupReply_interchange_api_GroupReply [.t 4] 2 = true := by kernel_rfl

/-- interchange/reply.messageFault$1 -/
def sc_reply_messageFault_1 : SC :=
  (.seq (.reg [.r 2 (.boxI (.t 0)),
     .r 3 (.mv (.c (.d (.bool false))))])
  (.seq (.reg [.r 4 (.fld 0 (.t 2)),
     .o 5 (.ld1 (.t 4)),
     .r 6 (.fld 0 (.t 1)),
     .o 7 (.ld1 (.t 6)),
     .r 8 (.bin .eql (.t 5) (.t 7)),
     .r 3 (.mv (.t 8))])
  .ret))
theorem fit_reply_messageFault_1 : fits Tryd.prog 121 Tryd.f121 sc_reply_messageFault_1 [.t 3] 2 = true := by kernel_rfl

def sc_slices_IndexFunc_interchange_api_MessageReply_interchange_api_MessageReply_L1 : SC :=
  (.seq (.reg [.r 9 (.bin .lss (.t 8) (.t 7))])
  (.seq (.cond (.t 9)
    .skip
    (.exit 0))
  (.seq (.block 1 (.seq (.reg [.r 10 (.mv (.t 8)),
       .r 5 (.mv (.t 10))])
    (.seq (.reg [.r 11 (.mv (.t 1)),
       .r 12 (.mv (.t 0)),
       .r 13 (.mv (.t 5)),
       .r 14 (.idx 5 (.t 12) (.t 13)),
       .o 15 (.ldA 5 (.t 14)),
       .c 16 (.t 11) [.t 15]])
    (.cond (.t 16)
      (.seq (.reg [.r 17 (.mv (.t 5)),
         .r 4 (.mv (.t 17))])
      .ret)
      .skip))))
  (.reg [.r 18 (.bin .add (.t 8) (.c (.d (.int .i64 1)))),
     .r 8 (.mv (.t 18))]))))
def sc_slices_IndexFunc_interchange_api_MessageReply_interchange_api_MessageReply_B1 : SC := .block 0 (.loop sc_slices_IndexFunc_interchange_api_MessageReply_interchange_api_MessageReply_L1)
/-- slices.IndexFunc[[]interchange/api.MessageReply,interchange/api.MessageReply] -/
def sc_slices_IndexFunc_interchange_api_MessageReply_interchange_api_MessageReply : SC :=
  (.seq (.reg [.r 4 (.mv (.c (.d (.int .i64 0))))])
  (.seq (.seq (.reg [.r 6 (.mv (.t 0)),
     .r 7 (.len (.t 6)),
     .r 8 (.mv (.c (.d (.int .i64 0))))])
  sc_slices_IndexFunc_interchange_api_MessageReply_interchange_api_MessageReply_B1)
  (.seq (.reg [.r 4 (.mv (.c (.d (.int .i64 (-1)))))])
  .ret)))
theorem fit_slices_IndexFunc_interchange_api_MessageReply_interchange_api_MessageReply : fits Tryd.prog 152 Tryd.f152 sc_slices_IndexFunc_interchange_api_MessageReply_interchange_api_MessageReply [.t 4] 2 = true := by kernel_rfl

/-- interchange/reply.together$1$1 -/
def sc_reply_together_1_1 : SC :=
  (.seq (.reg [.r 3 (.mv (.c (.d (.bool false))))])
  (.seq (.reg [.r 4 (.mv (.t 0)),
     .o 5 (.ld1 (.t 1)),
     .r 6 (.bin .neq (.t 4) (.t 5)),
     .r 3 (.mv (.t 6))])
  .ret))
theorem fit_reply_together_1_1 : fits Tryd.prog 125 Tryd.f125 sc_reply_together_1_1 [.t 3] 2 = true := by kernel_rfl

def sc_slices_IndexFunc_int_int_L1 : SC :=
  (.seq (.reg [.r 9 (.bin .lss (.t 8) (.t 7))])
  (.seq (.cond (.t 9)
    .skip
    (.exit 0))
  (.seq (.block 1 (.seq (.reg [.r 10 (.mv (.t 8)),
       .r 5 (.mv (.t 10))])
    (.seq (.reg [.r 11 (.mv (.t 1)),
       .r 12 (.mv (.t 0)),
       .r 13 (.mv (.t 5)),
       .r 14 (.idx 1 (.t 12) (.t 13)),
       .o 15 (.ld1 (.t 14)),
       .c 16 (.t 11) [.t 15]])
    (.cond (.t 16)
      (.seq (.reg [.r 17 (.mv (.t 5)),
         .r 4 (.mv (.t 17))])
      .ret)
      .skip))))
  (.reg [.r 18 (.bin .add (.t 8) (.c (.d (.int .i64 1)))),
     .r 8 (.mv (.t 18))]))))
def sc_slices_IndexFunc_int_int_B1 : SC := .block 0 (.loop sc_slices_IndexFunc_int_int_L1)
/-- slices.IndexFunc[[]int,int] -/
def sc_slices_IndexFunc_int_int : SC :=
  (.seq (.reg [.r 4 (.mv (.c (.d (.int .i64 0))))])
  (.seq (.seq (.reg [.r 6 (.mv (.t 0)),
     .r 7 (.len (.t 6)),
     .r 8 (.mv (.c (.d (.int .i64 0))))])
  sc_slices_IndexFunc_int_int_B1)
  (.seq (.reg [.r 4 (.mv (.c (.d (.int .i64 (-1)))))])
  .ret)))
theorem fit_slices_IndexFunc_int_int : fits Tryd.prog 154 Tryd.f154 sc_slices_IndexFunc_int_int [.t 4] 2 = true := by kernel_rfl

def sc_interchangeref2_IsReference_L1 : SC :=
  (.seq (.seq (.reg [.r 4 (.mv (.t 3)),
     .r 5 (.mv (.t 0)),
     .r 6 (.lenT (.t 5)),
     .r 7 (.bin .lss (.t 4) (.t 6))])
  (.cond (.t 7)
    .skip
    (.exit 0)))
  (.seq (.block 1 (.seq (.reg (.r 10 (.mv (.t 0)) :: .r 11 (.mv (.t 3)) :: .r 12 (.sidx (.t 10) (.t 11)) :: .r 13 (.bin .geq (.t 12) (.c (.d (.int .u8 65)))) :: .r 14 (.mv (.t 13)) :: gapp [15, 16, 17, 18] 14 true (.r 15 (.mv (.t 0)) :: .r 16 (.mv (.t 3)) :: .r 17 (.sidx (.t 15) (.t 16)) :: .r 18 (.bin .leq (.t 17) (.c (.d (.int .u8 90)))) :: []) (.r 19 (.pick (.t 14) (.t 18) (.c (.d (.bool false)))) :: .r 20 (.mv (.t 19)) :: gapp [21, 22, 23, 24, 25, 26, 27, 28, 29, 30] 20 false (.r 21 (.mv (.t 0)) :: .r 22 (.mv (.t 3)) :: .r 23 (.sidx (.t 21) (.t 22)) :: .r 24 (.bin .geq (.t 23) (.c (.d (.int .u8 48)))) :: .r 25 (.mv (.t 24)) :: gapp [26, 27, 28, 29] 25 true (.r 26 (.mv (.t 0)) :: .r 27 (.mv (.t 3)) :: .r 28 (.sidx (.t 26) (.t 27)) :: .r 29 (.bin .leq (.t 28) (.c (.d (.int .u8 57)))) :: []) (.r 30 (.pick (.t 25) (.t 29) (.c (.d (.bool false)))) :: [])) (.r 31 (.pick (.t 20) (.c (.d (.bool true))) (.t 30)) :: .r 32 (.mv (.t 31)) :: gapp [33, 34, 35, 36] 32 false (.r 33 (.mv (.t 0)) :: .r 34 (.mv (.t 3)) :: .r 35 (.sidx (.t 33) (.t 34)) :: .r 36 (.bin .eql (.t 35) (.c (.d (.int .u8 45)))) :: []) (.r 37 (.pick (.t 32) (.c (.d (.bool true))) (.t 36)) :: .r 38 (.not (.t 37)) :: [])))))
    (.cond (.t 38)
      (.seq (.reg [.r 2 (.mv (.c (.d (.bool false))))])
      .ret)
      .skip)))
  (.reg [.r 8 (.mv (.t 3)),
     .r 9 (.bin .add (.t 8) (.c (.d (.int .i64 1)))),
     .r 3 (.mv (.t 9))])))
def sc_interchangeref2_IsReference_B1 : SC := .block 0 (.loop sc_interchangeref2_IsReference_L1)
/-- interchange/interchangeref2.IsReference -/
def sc_interchangeref2_IsReference : SC :=
  (.seq (.reg [.r 2 (.mv (.c (.d (.bool false))))])
  (.seq (.seq (.reg [.r 3 (.mv (.c (.d (.int .i64 0))))])
  sc_interchangeref2_IsReference_B1)
  (.seq (.reg (.r 39 (.mv (.t 0)) :: .r 40 (.bin .neq (.t 39) (.c (.d (.str [])))) :: .r 41 (.mv (.t 40)) :: gapp [42, 43, 44] 41 true (.r 42 (.mv (.t 0)) :: .r 43 (.lenT (.t 42)) :: .r 44 (.bin .leq (.t 43) (.c (.d (.int .i64 14)))) :: []) (.r 45 (.pick (.t 41) (.t 44) (.c (.d (.bool false)))) :: .r 2 (.mv (.t 45)) :: [])))
  .ret)))
theorem fit_interchangeref2_IsReference : fits Tryd.prog 65 Tryd.f65 sc_interchangeref2_IsReference [.t 2] 1 = true := by kernel_rfl

/-- interchange/interchangeref7.within -/
def sc_interchangeref7_within : SC :=
  (.seq (.reg [.r 6 (.mv (.c (.d (.bool false))))])
  (.seq (.reg (.r 7 (.mv (.t 0)) :: .r 8 (.mv (.t 1)) :: .r 9 (.bin .geq (.t 7) (.t 8)) :: .r 10 (.mv (.t 9)) :: gapp [11, 12, 13] 10 true (.r 11 (.mv (.t 0)) :: .r 12 (.mv (.t 2)) :: .r 13 (.bin .leq (.t 11) (.t 12)) :: []) (.r 14 (.pick (.t 10) (.t 13) (.c (.d (.bool false)))) :: .r 6 (.mv (.t 14)) :: [])))
  .ret))
theorem fit_interchangeref7_within : fits Tryd.prog 56 Tryd.f56 sc_interchangeref7_within [.t 6] 3 = true := by kernel_rfl

def sc_interchangeref2_IsName_L1 : SC :=
  (.seq (.seq (.reg [.r 6 (.mv (.t 3)),
     .r 7 (.mv (.t 0)),
     .r 8 (.lenT (.t 7)),
     .r 9 (.bin .lss (.t 6) (.t 8))])
  (.cond (.t 9)
    .skip
    (.exit 0)))
  (.seq (.block 1 (.seq (.reg [.r 12 (.mv (.t 0)),
       .r 13 (.mv (.t 3)),
       .r 14 (.sidx (.t 12) (.t 13)),
       .r 4 (.mv (.t 14))])
    (.seq (.reg (.r 15 (.mv (.t 4)) :: .r 16 (.bin .geq (.t 15) (.c (.d (.int .u8 97)))) :: .r 17 (.mv (.t 16)) :: gapp [18, 19] 17 true (.r 18 (.mv (.t 4)) :: .r 19 (.bin .leq (.t 18) (.c (.d (.int .u8 122)))) :: []) (.r 20 (.pick (.t 17) (.t 19) (.c (.d (.bool false)))) :: .r 5 (.mv (.t 20)) :: [])))
    (.seq (.reg (.r 21 (.mv (.t 5)) :: .r 22 (.not (.t 21)) :: .r 23 (.mv (.t 22)) :: gapp [24, 25, 26, 27, 28, 29, 30, 31, 32, 33, 34, 35, 36, 37, 38] 23 true (.r 24 (.mv (.t 3)) :: .r 25 (.bin .eql (.t 24) (.c (.d (.int .i64 0)))) :: .r 26 (.mv (.t 25)) :: gapp [27, 28, 29, 30, 31, 32, 33, 34, 35, 36, 37] 26 false (.r 27 (.mv (.t 4)) :: .r 28 (.bin .neq (.t 27) (.c (.d (.int .u8 45)))) :: .r 29 (.mv (.t 28)) :: gapp [30, 31, 32, 33, 34, 35, 36] 29 true (.r 30 (.mv (.t 4)) :: .r 31 (.bin .geq (.t 30) (.c (.d (.int .u8 48)))) :: .r 32 (.mv (.t 31)) :: gapp [33, 34] 32 true (.r 33 (.mv (.t 4)) :: .r 34 (.bin .leq (.t 33) (.c (.d (.int .u8 57)))) :: []) (.r 35 (.pick (.t 32) (.t 34) (.c (.d (.bool false)))) :: .r 36 (.not (.t 35)) :: [])) (.r 37 (.pick (.t 29) (.t 36) (.c (.d (.bool false)))) :: [])) (.r 38 (.pick (.t 26) (.c (.d (.bool true))) (.t 37)) :: [])) (.r 39 (.pick (.t 23) (.t 38) (.c (.d (.bool false)))) :: [])))
    (.cond (.t 39)
      (.seq (.reg [.r 2 (.mv (.c (.d (.bool false))))])
      .ret)
      .skip)))))
  (.reg [.r 10 (.mv (.t 3)),
     .r 11 (.bin .add (.t 10) (.c (.d (.int .i64 1)))),
     .r 3 (.mv (.t 11))])))
def sc_interchangeref2_IsName_B1 : SC := .block 0 (.loop sc_interchangeref2_IsName_L1)
/-- interchange/interchangeref2.IsName -/
def sc_interchangeref2_IsName : SC :=
  (.seq (.reg [.r 2 (.mv (.c (.d (.bool false))))])
  (.seq (.seq (.reg [.r 3 (.mv (.c (.d (.int .i64 0))))])
  sc_interchangeref2_IsName_B1)
  (.seq (.reg (.r 40 (.mv (.t 0)) :: .r 41 (.bin .neq (.t 40) (.c (.d (.str [])))) :: .r 42 (.mv (.t 41)) :: gapp [43, 44, 45] 42 true (.r 43 (.mv (.t 0)) :: .r 44 (.lenT (.t 43)) :: .r 45 (.bin .leq (.t 44) (.c (.d (.int .i64 40)))) :: []) (.r 46 (.pick (.t 42) (.t 45) (.c (.d (.bool false)))) :: .r 2 (.mv (.t 46)) :: [])))
  .ret)))
theorem fit_interchangeref2_IsName : fits Tryd.prog 128 Tryd.f128 sc_interchangeref2_IsName [.t 2] 1 = true := by kernel_rfl

def sc_interchangeref7_together_L1 : SC :=
  (.seq (.seq (.reg [.r 6 (.mv (.t 5)),
     .r 7 (.mv (.t 0)),
     .r 8 (.len (.t 7)),
     .r 9 (.bin .lss (.t 6) (.t 8))])
  (.cond (.t 9)
    .skip
    (.exit 0)))
  (.seq (.block 1 (.seq (.reg (.r 12 (.mv (.t 3)) :: .r 13 (.mv (.t 12)) :: gapp [14, 15, 16, 17, 18] 13 true (.r 14 (.mv (.t 0)) :: .r 15 (.mv (.t 5)) :: .r 16 (.idx 1 (.t 14) (.t 15)) :: .r 17 (.ld1 (.t 16)) :: .r 18 (.bin .eql (.t 17) (.c (.d (.int .i64 1)))) :: []) (.r 19 (.pick (.t 13) (.t 18) (.c (.d (.bool false)))) :: .r 3 (.mv (.t 19)) :: [])))
    (.reg (.r 20 (.mv (.t 4)) :: .r 21 (.mv (.t 20)) :: gapp [22, 23, 24, 25, 26] 21 true (.r 22 (.mv (.t 0)) :: .r 23 (.mv (.t 5)) :: .r 24 (.idx 1 (.t 22) (.t 23)) :: .r 25 (.ld1 (.t 24)) :: .r 26 (.bin .eql (.t 25) (.c (.d (.int .i64 3)))) :: []) (.r 27 (.pick (.t 21) (.t 26) (.c (.d (.bool false)))) :: .r 4 (.mv (.t 27)) :: [])))))
  (.reg [.r 10 (.mv (.t 5)),
     .r 11 (.bin .add (.t 10) (.c (.d (.int .i64 1)))),
     .r 5 (.mv (.t 11))])))
def sc_interchangeref7_together_B1 : SC := .block 0 (.loop sc_interchangeref7_together_L1)
/-- interchange/interchangeref7.together -/
def sc_interchangeref7_together : SC :=
  (.seq (.reg [.r 2 (.mv (.c (.d (.int .i64 0))))])
  (.seq (.reg [.r 3 (.mv (.c (.d (.bool true)))),
     .r 4 (.mv (.c (.d (.bool true))))])
  (.seq (.seq (.reg [.r 5 (.mv (.c (.d (.int .i64 0))))])
  sc_interchangeref7_together_B1)
  (.seq (.seq (.reg [.r 28 (.mv (.t 3))])
  (.cond (.t 28)
    (.seq (.reg [.r 2 (.mv (.c (.d (.int .i64 1))))])
    .ret)
    .skip))
  (.seq (.seq (.reg [.r 29 (.mv (.t 4))])
  (.cond (.t 29)
    (.seq (.reg [.r 2 (.mv (.c (.d (.int .i64 3))))])
    .ret)
    .skip))
  (.seq (.reg [.r 2 (.mv (.c (.d (.int .i64 2))))])
  .ret))))))
theorem fit_interchangeref7_together : fits Tryd.prog 97 Tryd.f97 sc_interchangeref7_together [.t 2] 1 = true := by kernel_rfl

/-- interchange/reply.stateOf -/
def sc_reply_stateOf : SC :=
  (.seq (.reg [.r 2 (.boxI (.t 0)),
     .r 4 (.mv (.c (.d (.int .i64 0))))])
  (.seq (.block 0 (.seq (.reg [.r 6 (.fld 3 (.t 2)),
       .o 7 (.ld1 (.t 6)),
       .r 8 (.bin .geq (.t 7) (.c (.d (.int .i64 0)))),
       .r 5 (.mv (.t 8))])
    (.cond (.t 5)
      (.seq (.reg [.r 4 (.mv (.c (.d (.int .i64 3))))])
      .ret)
      (.seq (.reg [.r 10 (.mv (.t 1)),
         .r 11 (.fld 2 (.t 2)),
         .o 12 (.ld1 (.t 11)),
         .r 13 (.bin .gtr (.t 10) (.t 12)),
         .r 9 (.mv (.t 13))])
      (.cond (.t 9)
        (.seq (.reg [.r 4 (.mv (.c (.d (.int .i64 2))))])
        .ret)
        .skip)))))
  (.seq (.reg [.r 4 (.mv (.c (.d (.int .i64 1))))])
  .ret)))
theorem fit_reply_stateOf : fits Tryd.prog 71 Tryd.f71 sc_reply_stateOf [.t 4] 2 = true := by kernel_rfl

set_option maxRecDepth 100000 in
set_option maxHeartbeats 40000000 in
noncomputable def sims_G4_0_0 : (∀ (x0 : Int) (x1 : Int) (x2 : Int), {m : Option (Bool) // ∀ r, m = some r → PureSpec Tryd.prog 70 [.int .i64 x0, .int .i64 x1, .int .i64 x2] (.bool r)}) × (∀ (x0 : Tapi_GroupReply) (y0 : Tapi_GroupReply), {m : Option (Bool) // ∀ r, m = some r → PureSpec Tryd.prog 91 [.agg (rTapi_GroupReply x0), .ptr (rTapi_GroupReply y0)] (.bool r)}) × (∀ (x0 : List Tapi_GroupReply) (f1 : FuncId) (c1 : List DV) (p1 : Tapi_GroupReply → Option (Bool)) (h1 : ∀ a0 r, p1 a0 = some r → PureSpec Tryd.prog f1 ([.agg (rTapi_GroupReply a0)] ++ c1) (.bool r)), {m : Option (Int) // ∀ r, m = some r → PureSpec Tryd.prog 119 [.slice (List.map rTapi_GroupReply x0), .fn f1 c1] (.int .i64 r)}) × (∀ (x0 : Tapi_MessageReply) (y0 : Tapi_MessageReply), {m : Option (Bool) // ∀ r, m = some r → PureSpec Tryd.prog 121 [.agg (rTapi_MessageReply x0), .ptr (rTapi_MessageReply y0)] (.bool r)}) × (∀ (x0 : List Tapi_MessageReply) (f1 : FuncId) (c1 : List DV) (p1 : Tapi_MessageReply → Option (Bool)) (h1 : ∀ a0 r, p1 a0 = some r → PureSpec Tryd.prog f1 ([.agg (rTapi_MessageReply a0)] ++ c1) (.bool r)), {m : Option (Int) // ∀ r, m = some r → PureSpec Tryd.prog 152 [.slice (List.map rTapi_MessageReply x0), .fn f1 c1] (.int .i64 r)}) × (∀ (x0 : Int) (y0 : Int), {m : Option (Bool) // ∀ r, m = some r → PureSpec Tryd.prog 125 [.int .i64 x0, .ptr (rowI y0)] (.bool r)}) × (∀ (x0 : List Int) (f1 : FuncId) (c1 : List DV) (p1 : Int → Option (Bool)) (h1 : ∀ a0 r, p1 a0 = some r → PureSpec Tryd.prog f1 ([.int .i64 a0] ++ c1) (.bool r)), {m : Option (Int) // ∀ r, m = some r → PureSpec Tryd.prog 154 [.slice (List.map rowI x0), .fn f1 c1] (.int .i64 r)}) × (∀ (x0 : List UInt8), {m : Option (Bool) // ∀ r, m = some r → PureSpec Tryd.prog 65 [.str x0] (.bool r)}) × (∀ (x0 : Int) (x1 : Int) (x2 : Int), {m : Option (Bool) // ∀ r, m = some r → PureSpec Tryd.prog 56 [.int .i64 x0, .int .i64 x1, .int .i64 x2] (.bool r)}) × (∀ (x0 : List UInt8), {m : Option (Bool) // ∀ r, m = some r → PureSpec Tryd.prog 128 [.str x0] (.bool r)}) × (∀ (x0 : List Int), {m : Option (Int) // ∀ r, m = some r → PureSpec Tryd.prog 97 [.slice (List.map rowI x0)] (.int .i64 r)}) × (∀ (x0 : Tapi_Sending) (x1 : Int), {m : Option (Int) // ∀ r, m = some r → PureSpec Tryd.prog 71 [.agg (rTapi_Sending x0), .int .i64 x1] (.int .i64 r)}) := by
  refine ⟨?g0, ?g1, ?g2, ?g3, ?g4, ?g5, ?g6, ?g7, ?g8, ?g9, ?g10, ?g11⟩
  case' g0 => (intro x0 x1 x2; apply Subtype.mk; intro r hm; apply pure_walk Tryd.func70 fit_kit_Outside; unfold sc_kit_Outside)
  case' g1 => (intro x0 y0; apply Subtype.mk; intro r hm; apply pure_walk Tryd.func91 fit_reply_groupFault_1; unfold sc_reply_groupFault_1)
  case' g2 => (intro x0 f1 c1 p1 h1; apply Subtype.mk; intro r hm; apply pure_walk Tryd.func119 fit_slices_IndexFunc_interchange_api_GroupReply_interchange_api_GroupReply; unfold sc_slices_IndexFunc_interchange_api_GroupReply_interchange_api_GroupReply)
  case' g3 => (intro x0 y0; apply Subtype.mk; intro r hm; apply pure_walk Tryd.func121 fit_reply_messageFault_1; unfold sc_reply_messageFault_1)
  case' g4 => (intro x0 f1 c1 p1 h1; apply Subtype.mk; intro r hm; apply pure_walk Tryd.func152 fit_slices_IndexFunc_interchange_api_MessageReply_interchange_api_MessageReply; unfold sc_slices_IndexFunc_interchange_api_MessageReply_interchange_api_MessageReply)
  case' g5 => (intro x0 y0; apply Subtype.mk; intro r hm; apply pure_walk Tryd.func125 fit_reply_together_1_1; unfold sc_reply_together_1_1)
  case' g6 => (intro x0 f1 c1 p1 h1; apply Subtype.mk; intro r hm; apply pure_walk Tryd.func154 fit_slices_IndexFunc_int_int; unfold sc_slices_IndexFunc_int_int)
  case' g7 => (intro x0; apply Subtype.mk; intro r hm; apply pure_walk Tryd.func65 fit_interchangeref2_IsReference; unfold sc_interchangeref2_IsReference)
  case' g8 => (intro x0 x1 x2; apply Subtype.mk; intro r hm; apply pure_walk Tryd.func56 fit_interchangeref7_within; unfold sc_interchangeref7_within)
  case' g9 => (intro x0; apply Subtype.mk; intro r hm; apply pure_walk Tryd.func128 fit_interchangeref2_IsName; unfold sc_interchangeref2_IsName)
  case' g10 => (intro x0; apply Subtype.mk; intro r hm; apply pure_walk Tryd.func97 fit_interchangeref7_together; unfold sc_interchangeref7_together)
  case' g11 => (intro x0 x1; apply Subtype.mk; intro r hm; apply pure_walk Tryd.func71 fit_reply_stateOf; unfold sc_reply_stateOf)
  all_goals (repeat' (first | with_reducible refine W_seq ?_ | with_reducible refine W_reg ?_ | with_reducible refine W_block ?_ | with_reducible refine W_skip ?_ | with_reducible refine W_ret ?_ | with_reducible refine W_exit ?_ | with_reducible refine O_nil ?_ | with_reducible refine K_seq ?_ | with_reducible refine K_seqE ?_ | with_reducible refine K_seqR ?_ | with_reducible refine K_block ?_ | with_reducible refine K_blockR ?_ | with_reducible refine K_blockE ?_ | ((with_reducible apply K_blockN); decide) | with_reducible refine O_o2r ?_ | ((with_reducible apply O_idxr hm); (iterate 2 (simp only [push_cast, seval]; rfl)); (intro _; rfl); intro e hm) | ((with_reducible apply O_idxVr hm); (iterate 3 (simp only [push_cast, seval]; rfl)); intro e hm) | ((with_reducible apply O_sidxr hm); (iterate 2 (simp only [push_cast, seval]; rfl)); intro e hm) | ((with_reducible apply O_r); (simp only [push_cast, seval]; rfl); (first | exact trivial | omega)) | ((with_reducible apply O_ldV1r hm); (iterate 2 (simp only [push_cast, seval]; rfl)); (intro _; rfl); intro e hm) | ((with_reducible apply O_strr hm); (iterate 2 (simp only [push_cast, seval]; rfl)); intro hm) | ((with_reducible apply O_and hm); (simp only [push_cast, seval]; rfl); rfl; intro v hm; rotate_left; intro v g hm) | ((with_reducible apply O_or hm); (simp only [push_cast, seval]; rfl); rfl; intro v hm; rotate_left; intro v g hm) | ((with_reducible apply W_condT); (focus (simp only [push_cast, seval]; done))) | ((with_reducible apply W_condF); (focus (simp only [push_cast, seval]; done))) | ((with_reducible apply O_cS hm); (simp only [push_cast, seval]; rfl); (focus (first | exact h1 _)); intro x hm) | ((with_reducible apply O_cF hm); (simp only [push_cast, seval]; rfl); (first | apply h1 _); (any_goals ((repeat' (first | rfl | (with_reducible first | apply fT_Tapi_Element | apply fT_Tapi_Marks | apply fT_Tapi_Segment | apply fT_Tapi_GroupReply | apply fT_Tapi_MessageReply | apply fT_Tapi_Flaw | apply fT_Tapi_Spot | apply fT_Tapi_Reply | apply fT_Tapi_BookEvent | apply fT_Tapi_Sending | apply fT_Tapi_Standing | apply f_optN | apply f_optS | apply f_some | apply f_tup | apply f_agg | apply f_ptr | apply f_fn | apply dv_slice | apply sv_d | apply f_cons | apply fold_nil | apply fold_cons | apply fold_app | apply f_rowI | apply f_rowY | apply f_rowS | apply f_rowB | apply f_rowL) | (with_reducible apply f_byte; decide))); done)); intro x hm) | ((with_reducible apply O_cvS hm); (iterate 2 (simp only [push_cast, seval]; rfl)); (focus (first | exact h1 _)); intro x hm) | ((with_reducible apply S_condB hm); (simp only [push_cast, seval]; rfl); intro hm; rotate_left; intro hm) | ((with_reducible apply K_endS hm); (focus (simp only [resOf, resL, RV.get, push_cast, seval]; rfl)); (focus ((repeat' (first | rfl | (with_reducible first | apply fT_Tapi_Element | apply fT_Tapi_Marks | apply fT_Tapi_Segment | apply fT_Tapi_GroupReply | apply fT_Tapi_MessageReply | apply fT_Tapi_Flaw | apply fT_Tapi_Spot | apply fT_Tapi_Reply | apply fT_Tapi_BookEvent | apply fT_Tapi_Sending | apply fT_Tapi_Standing | apply f_optN | apply f_optS | apply f_some | apply f_tup | apply f_agg | apply f_ptr | apply f_fn | apply dv_slice | apply sv_d | apply f_cons | apply fold_nil | apply fold_cons | apply fold_app | apply f_rowI | apply f_rowY | apply f_rowS | apply f_rowB | apply f_rowL) | (with_reducible apply f_byte; decide))); done))) | ((with_reducible apply K_bool hm); (simp only [push_cast, seval]; rfl)) | ((with_reducible apply K_leave hm); intro r hm) | ((with_reducible apply K_leaveR hm); intro r hm) | ((apply S_loopY (b := 0) (X := sc_slices_IndexFunc_interchange_api_GroupReply_interchange_api_GroupReply_B1) (x := sc_slices_IndexFunc_interchange_api_GroupReply_interchange_api_GroupReply_L1) rfl (fun (c : SV × SV × SV) (s : Int) => st [(0, c.1), (1, c.2.1), (7, c.2.2), (8, .d (.int .i64 s))] []) (c := (_, _, _)) (s0 := _) hm); (focus (first | (dsimp only; done) | (dsimp only; rfl) | rfl)); (with_reducible refine Then.mk ?_ ?_)) | ((apply S_loopY (b := 0) (X := sc_slices_IndexFunc_interchange_api_MessageReply_interchange_api_MessageReply_B1) (x := sc_slices_IndexFunc_interchange_api_MessageReply_interchange_api_MessageReply_L1) rfl (fun (c : SV × SV × SV) (s : Int) => st [(0, c.1), (1, c.2.1), (7, c.2.2), (8, .d (.int .i64 s))] []) (c := (_, _, _)) (s0 := _) hm); (focus (first | (dsimp only; done) | (dsimp only; rfl) | rfl)); (with_reducible refine Then.mk ?_ ?_)) | ((apply S_loopY (b := 0) (X := sc_slices_IndexFunc_int_int_B1) (x := sc_slices_IndexFunc_int_int_L1) rfl (fun (c : SV × SV × SV) (s : Int) => st [(0, c.1), (1, c.2.1), (7, c.2.2), (8, .d (.int .i64 s))] []) (c := (_, _, _)) (s0 := _) hm); (focus (first | (dsimp only; done) | (dsimp only; rfl) | rfl)); (with_reducible refine Then.mk ?_ ?_)) | ((apply S_loopY (b := 0) (X := sc_interchangeref2_IsReference_B1) (x := sc_interchangeref2_IsReference_L1) rfl (fun (c : SV) (s : Int) => st [(0, c), (3, .d (.int .i64 s))] []) (c := _) (s0 := _) hm); (focus (first | (dsimp only; done) | (dsimp only; rfl) | rfl)); (with_reducible refine Then.mk ?_ ?_)) | ((apply S_loopY (b := 0) (X := sc_interchangeref2_IsName_B1) (x := sc_interchangeref2_IsName_L1) rfl (fun (c : SV) (s : Int) => st [(0, c), (3, .d (.int .i64 s))] []) (c := _) (s0 := _) hm); (focus (first | (dsimp only; done) | (dsimp only; rfl) | rfl)); (with_reducible refine Then.mk ?_ ?_)) | ((apply S_loopY (b := 0) (X := sc_interchangeref7_together_B1) (x := sc_interchangeref7_together_L1) rfl (fun (c : SV) (s : Bool × Bool × Int) => st [(0, c), (3, .d (.bool s.1)), (4, .d (.bool s.2.1)), (5, .d (.int .i64 s.2.2))] []) (c := _) (s0 := (_, _, _)) hm); (focus (first | (dsimp only; done) | (dsimp only; rfl) | rfl)); (with_reducible refine Then.mk ?_ ?_)) | ((apply K_next (s' := (_, _, _)) hm); (focus (first | (dsimp only; done) | (dsimp only; rfl) | rfl))) | ((apply K_brk (s' := (_, _, _)) hm); (focus (first | (dsimp only; done) | (dsimp only; rfl) | rfl))) | ((apply K_next (s' := _) hm); (focus (first | (dsimp only; done) | (dsimp only; rfl) | rfl))) | ((apply K_brk (s' := _) hm); (focus (first | (dsimp only; done) | (dsimp only; rfl) | rfl))) | (((with_reducible apply K_brkN hm); (focus decide); intro r hm)) | (((with_reducible apply K_brkR hm); intro r hm)) | (((with_reducible apply LoopB.of); (focus (first | (dsimp only; done) | (dsimp only; rfl) | rfl)); (focus ((intro _; repeat' (first | with_reducible exact impC_end | with_reducible exact impC_endF | with_reducible refine impC_seq ?_ | with_reducible refine impC_block ?_ | ((with_reducible refine impC_rnd ?_); intro _) | ((with_reducible refine impC_brk ?_); intro _))))); (intro s o hm; first | unfold sc_slices_IndexFunc_interchange_api_GroupReply_interchange_api_GroupReply_L1 | unfold sc_slices_IndexFunc_interchange_api_MessageReply_interchange_api_MessageReply_L1 | unfold sc_slices_IndexFunc_int_int_L1 | unfold sc_interchangeref2_IsReference_L1 | unfold sc_interchangeref2_IsName_L1 | unfold sc_interchangeref7_together_L1); rotate_left; intro s hm)) | (((apply imp_stT; (repeat' (first | with_reducible exact keepT_nil | with_reducible exact keepC_nil | with_reducible apply keepT_cons | with_reducible apply keepC_cons | ((with_reducible apply svle_eq); (focus (first | (simp only [push_cast, seval]; rfl) | rfl)); (focus ((repeat' (first | rfl | (with_reducible first | apply fT_Tapi_Element | apply fT_Tapi_Marks | apply fT_Tapi_Segment | apply fT_Tapi_GroupReply | apply fT_Tapi_MessageReply | apply fT_Tapi_Flaw | apply fT_Tapi_Spot | apply fT_Tapi_Reply | apply fT_Tapi_BookEvent | apply fT_Tapi_Sending | apply fT_Tapi_Standing | apply f_optN | apply f_optS | apply f_some | apply f_tup | apply f_agg | apply f_ptr | apply f_fn | apply dv_slice | apply sv_d | apply f_cons | apply fold_nil | apply fold_cons | apply fold_app | apply f_rowI | apply f_rowY | apply f_rowS | apply f_rowB | apply f_rowL) | (with_reducible apply f_byte; decide))); done))) | ((with_reducible apply svle_td); (focus (first | (simp only [push_cast, seval]; rfl) | rfl)); (focus (first | (simp only [push_cast, seval]; rfl) | rfl)); (focus ((repeat' (first | rfl | (with_reducible first | apply fT_Tapi_Element | apply fT_Tapi_Marks | apply fT_Tapi_Segment | apply fT_Tapi_GroupReply | apply fT_Tapi_MessageReply | apply fT_Tapi_Flaw | apply fT_Tapi_Spot | apply fT_Tapi_Reply | apply fT_Tapi_BookEvent | apply fT_Tapi_Sending | apply fT_Tapi_Standing | apply f_optN | apply f_optS | apply f_some | apply f_tup | apply f_agg | apply f_ptr | apply f_fn | apply dv_slice | apply sv_d | apply f_cons | apply fold_nil | apply fold_cons | apply fold_app | apply f_rowI | apply f_rowY | apply f_rowS | apply f_rowB | apply f_rowL) | (with_reducible apply f_byte; decide))); done))) | ((with_reducible apply chle_eq); (focus (first | (simp only [push_cast, seval]; rfl) | rfl)); (first | with_reducible exact chle_rfl rfl | with_reducible exact chle_map0 | with_reducible apply chle_vec | with_reducible apply chle_box)) | (with_reducible first | apply cT_Tapi_Element | apply cT_Tapi_Marks | apply cT_Tapi_Segment | apply cT_Tapi_GroupReply | apply cT_Tapi_MessageReply | apply cT_Tapi_Flaw | apply cT_Tapi_Spot | apply cT_Tapi_Reply | apply cT_Tapi_BookEvent | apply cT_Tapi_Sending | apply cT_Tapi_Standing | apply r_shS | apply r_shI | apply r_rflO | apply r_oneO | apply r_appO | apply r_nilO | apply c_ownN | apply c_ownL | apply vc_rfl | apply vc_nil | apply vc_cons | apply r_rfl | apply r_rows | apply r_nil | apply r_app | apply r_cons | apply c_rowI | apply c_rowY | apply c_rowS | apply c_rowB | apply c_rowL))); done)))))
noncomputable def m_kit_Outside (x0 : Int) (x1 : Int) (x2 : Int) : Option (Bool) := (sims_G4_0_0.1 x0 x1 x2).1
theorem spec_kit_Outside (x0 : Int) (x1 : Int) (x2 : Int) : ∀ r, m_kit_Outside x0 x1 x2 = some r → PureSpec Tryd.prog 70 [.int .i64 x0, .int .i64 x1, .int .i64 x2] (.bool r) := (sims_G4_0_0.1 x0 x1 x2).2
noncomputable def m_reply_groupFault_1 (x0 : Tapi_GroupReply) (y0 : Tapi_GroupReply) : Option (Bool) := (sims_G4_0_0.2.1 x0 y0).1
theorem spec_reply_groupFault_1 (x0 : Tapi_GroupReply) (y0 : Tapi_GroupReply) : ∀ r, m_reply_groupFault_1 x0 y0 = some r → PureSpec Tryd.prog 91 [.agg (rTapi_GroupReply x0), .ptr (rTapi_GroupReply y0)] (.bool r) := (sims_G4_0_0.2.1 x0 y0).2
noncomputable def m_slices_IndexFunc_interchange_api_GroupReply_interchange_api_GroupReply (x0 : List Tapi_GroupReply) (f1 : FuncId) (c1 : List DV) (p1 : Tapi_GroupReply → Option (Bool)) (h1 : ∀ a0 r, p1 a0 = some r → PureSpec Tryd.prog f1 ([.agg (rTapi_GroupReply a0)] ++ c1) (.bool r)) : Option (Int) := (sims_G4_0_0.2.2.1 x0 f1 c1 p1 h1).1
theorem spec_slices_IndexFunc_interchange_api_GroupReply_interchange_api_GroupReply (x0 : List Tapi_GroupReply) (f1 : FuncId) (c1 : List DV) (p1 : Tapi_GroupReply → Option (Bool)) (h1 : ∀ a0 r, p1 a0 = some r → PureSpec Tryd.prog f1 ([.agg (rTapi_GroupReply a0)] ++ c1) (.bool r)) : ∀ r, m_slices_IndexFunc_interchange_api_GroupReply_interchange_api_GroupReply x0 f1 c1 p1 h1 = some r → PureSpec Tryd.prog 119 [.slice (List.map rTapi_GroupReply x0), .fn f1 c1] (.int .i64 r) := (sims_G4_0_0.2.2.1 x0 f1 c1 p1 h1).2
noncomputable def m_reply_messageFault_1 (x0 : Tapi_MessageReply) (y0 : Tapi_MessageReply) : Option (Bool) := (sims_G4_0_0.2.2.2.1 x0 y0).1
theorem spec_reply_messageFault_1 (x0 : Tapi_MessageReply) (y0 : Tapi_MessageReply) : ∀ r, m_reply_messageFault_1 x0 y0 = some r → PureSpec Tryd.prog 121 [.agg (rTapi_MessageReply x0), .ptr (rTapi_MessageReply y0)] (.bool r) := (sims_G4_0_0.2.2.2.1 x0 y0).2
noncomputable def m_slices_IndexFunc_interchange_api_MessageReply_interchange_api_MessageReply (x0 : List Tapi_MessageReply) (f1 : FuncId) (c1 : List DV) (p1 : Tapi_MessageReply → Option (Bool)) (h1 : ∀ a0 r, p1 a0 = some r → PureSpec Tryd.prog f1 ([.agg (rTapi_MessageReply a0)] ++ c1) (.bool r)) : Option (Int) := (sims_G4_0_0.2.2.2.2.1 x0 f1 c1 p1 h1).1
theorem spec_slices_IndexFunc_interchange_api_MessageReply_interchange_api_MessageReply (x0 : List Tapi_MessageReply) (f1 : FuncId) (c1 : List DV) (p1 : Tapi_MessageReply → Option (Bool)) (h1 : ∀ a0 r, p1 a0 = some r → PureSpec Tryd.prog f1 ([.agg (rTapi_MessageReply a0)] ++ c1) (.bool r)) : ∀ r, m_slices_IndexFunc_interchange_api_MessageReply_interchange_api_MessageReply x0 f1 c1 p1 h1 = some r → PureSpec Tryd.prog 152 [.slice (List.map rTapi_MessageReply x0), .fn f1 c1] (.int .i64 r) := (sims_G4_0_0.2.2.2.2.1 x0 f1 c1 p1 h1).2
noncomputable def m_reply_together_1_1 (x0 : Int) (y0 : Int) : Option (Bool) := (sims_G4_0_0.2.2.2.2.2.1 x0 y0).1
theorem spec_reply_together_1_1 (x0 : Int) (y0 : Int) : ∀ r, m_reply_together_1_1 x0 y0 = some r → PureSpec Tryd.prog 125 [.int .i64 x0, .ptr (rowI y0)] (.bool r) := (sims_G4_0_0.2.2.2.2.2.1 x0 y0).2
noncomputable def m_slices_IndexFunc_int_int (x0 : List Int) (f1 : FuncId) (c1 : List DV) (p1 : Int → Option (Bool)) (h1 : ∀ a0 r, p1 a0 = some r → PureSpec Tryd.prog f1 ([.int .i64 a0] ++ c1) (.bool r)) : Option (Int) := (sims_G4_0_0.2.2.2.2.2.2.1 x0 f1 c1 p1 h1).1
theorem spec_slices_IndexFunc_int_int (x0 : List Int) (f1 : FuncId) (c1 : List DV) (p1 : Int → Option (Bool)) (h1 : ∀ a0 r, p1 a0 = some r → PureSpec Tryd.prog f1 ([.int .i64 a0] ++ c1) (.bool r)) : ∀ r, m_slices_IndexFunc_int_int x0 f1 c1 p1 h1 = some r → PureSpec Tryd.prog 154 [.slice (List.map rowI x0), .fn f1 c1] (.int .i64 r) := (sims_G4_0_0.2.2.2.2.2.2.1 x0 f1 c1 p1 h1).2
noncomputable def m_interchangeref2_IsReference (x0 : List UInt8) : Option (Bool) := (sims_G4_0_0.2.2.2.2.2.2.2.1 x0).1
theorem spec_interchangeref2_IsReference (x0 : List UInt8) : ∀ r, m_interchangeref2_IsReference x0 = some r → PureSpec Tryd.prog 65 [.str x0] (.bool r) := (sims_G4_0_0.2.2.2.2.2.2.2.1 x0).2
noncomputable def m_interchangeref7_within (x0 : Int) (x1 : Int) (x2 : Int) : Option (Bool) := (sims_G4_0_0.2.2.2.2.2.2.2.2.1 x0 x1 x2).1
theorem spec_interchangeref7_within (x0 : Int) (x1 : Int) (x2 : Int) : ∀ r, m_interchangeref7_within x0 x1 x2 = some r → PureSpec Tryd.prog 56 [.int .i64 x0, .int .i64 x1, .int .i64 x2] (.bool r) := (sims_G4_0_0.2.2.2.2.2.2.2.2.1 x0 x1 x2).2
noncomputable def m_interchangeref2_IsName (x0 : List UInt8) : Option (Bool) := (sims_G4_0_0.2.2.2.2.2.2.2.2.2.1 x0).1
theorem spec_interchangeref2_IsName (x0 : List UInt8) : ∀ r, m_interchangeref2_IsName x0 = some r → PureSpec Tryd.prog 128 [.str x0] (.bool r) := (sims_G4_0_0.2.2.2.2.2.2.2.2.2.1 x0).2
noncomputable def m_interchangeref7_together (x0 : List Int) : Option (Int) := (sims_G4_0_0.2.2.2.2.2.2.2.2.2.2.1 x0).1
theorem spec_interchangeref7_together (x0 : List Int) : ∀ r, m_interchangeref7_together x0 = some r → PureSpec Tryd.prog 97 [.slice (List.map rowI x0)] (.int .i64 r) := (sims_G4_0_0.2.2.2.2.2.2.2.2.2.2.1 x0).2
noncomputable def m_reply_stateOf (x0 : Tapi_Sending) (x1 : Int) : Option (Int) := (sims_G4_0_0.2.2.2.2.2.2.2.2.2.2.2 x0 x1).1
theorem spec_reply_stateOf (x0 : Tapi_Sending) (x1 : Int) : ∀ r, m_reply_stateOf x0 x1 = some r → PureSpec Tryd.prog 71 [.agg (rTapi_Sending x0), .int .i64 x1] (.int .i64 r) := (sims_G4_0_0.2.2.2.2.2.2.2.2.2.2.2 x0 x1).2

def sc_reply_book_R8 : SC :=
  (.regE [.r 22 (.mv (.t 6)),
   .r 23 (.fld 3 (.t 8)),
   .r 24 (.ld1 (.t 23)),
   .r 25 (.mv (.t 6)),
   .r 26 (.fld 3 (.t 8)),
   .r 27 (.ld1 (.t 26)),
   .r 28 (.look .str (.nils) false (.t 25) (.t 27)),
   .r 29 (.mv (.t 4)),
   .r 30 (.len (.t 29)),
   .r 31 (.bslice 1 [.t 30]),
   .x 32 (.app 3 1 (.t 28) (.t 31)) [(0, 22, .mv (.t 6)), (1, 23, .fld 3 (.t 8)), (2, 24, .ld1 (.t 23))],
   .x 0 (.mset .str (.t 22) (.t 24) (.t 32)) []])
def sc_reply_book_L1 : SC :=
  (.seq (.reg [.r 15 (.bin .lss (.t 14) (.t 13))])
  (.seq (.cond (.t 15)
    .skip
    (.exit 0))
  (.seq (.block 1 (.seq (.reg [.r 16 (.mv (.t 14)),
       .r 17 (.idx 5 (.t 12) (.t 14)),
       .o 18 (.ldA 5 (.t 17)),
       .w 8 (.boxM (.c (.agg [.d (.int .i64 0), .d (.int .i64 0), .d (.int .i64 0), .d (.str []), .d (.int .i64 0)]))),
       .r 7 (.mv (.t 16)),
       .w 0 (.st 5 (.t 8) (.t 18))])
    (.seq (.seq (.reg [.r 19 (.fld 0 (.t 8)),
       .o 20 (.ld1 (.t 19)),
       .r 21 (.bin .eql (.t 20) (.c (.d (.int .i64 1))))])
    (.cond (.t 21)
      (.seq sc_reply_book_R8
      (.seq (.reg [.r 33 (.mv (.t 4)),
         .r 34 (.fld 3 (.t 8)),
         .o 35 (.ld1 (.t 34)),
         .r 36 (.fld 1 (.t 8)),
         .o 37 (.ld1 (.t 36)),
         .r 38 (.fld 2 (.t 8)),
         .o 39 (.ld1 (.t 38)),
         .r 40 (.build [.d (.str []), .d (.int .i64 0), .d (.int .i64 0), .d (.int .i64 0), .d (.int .i64 0)] [(0, 1, .t 35), (1, 1, .t 37), (2, 1, .t 39), (3, 1, .c (.d (.int .i64 (-1))))]),
         .r 41 (.bslice 5 [.t 40]),
         .w 42 (.app 53 5 (.t 33) (.t 41)),
         .r 4 (.mv (.t 42))])
      (.exit 1)))
      .skip))
    (.seq (.reg [.r 43 (.mv (.t 6)),
       .r 44 (.fld 3 (.t 8)),
       .o 45 (.ld1 (.t 44)),
       .o 46 (.look .str (.nils) false (.t 43) (.t 45)),
       .r 9 (.mv (.t 46))])
    (.seq (.seq (.reg [.r 47 (.mv (.t 9)),
       .r 48 (.len (.t 47)),
       .r 49 (.bin .eql (.t 48) (.c (.d (.int .i64 0))))])
    (.cond (.t 49)
      (.seq (.reg [.r 50 (.mv (.t 5)),
         .r 51 (.mv (.t 7)),
         .r 52 (.bslice 1 [.t 51]),
         .w 53 (.app 3 1 (.t 50) (.t 52)),
         .r 5 (.mv (.t 53))])
      (.exit 1))
      .skip))
    (.seq (.reg [.r 54 (.mv (.t 4)),
       .r 55 (.mv (.t 9)),
       .r 56 (.mv (.t 9)),
       .r 57 (.len (.t 56)),
       .r 58 (.bin .sub (.t 57) (.c (.d (.int .i64 1)))),
       .r 59 (.idx 1 (.t 55) (.t 58)),
       .o 60 (.ld1 (.t 59)),
       .r 61 (.idx 5 (.t 54) (.t 60)),
       .r 10 (.mv (.t 61))])
    (.seq (.regE [.r 62 (.mv (.t 10)),
       .r 63 (.mv (.t 10)),
       .r 64 (.fld 1 (.t 8)),
       .r 65 (.ld1 (.t 64)),
       .r 66 (.fld 4 (.t 8)),
       .r 67 (.ld1 (.t 66)),
       .r 68 (.nilc (.t 62)),
       .r 69 (.fld 3 (.t 68)),
       .x 0 (.st 1 (.t 69) (.t 65)) [(1, 63, .mv (.t 10)), (4, 66, .fld 4 (.t 8)), (5, 67, .ld1 (.t 66))],
       .r 70 (.nilc (.t 63)),
       .r 71 (.fld 4 (.t 70)),
       .x 0 (.st 1 (.t 71) (.t 67)) []])
    (.regE [.r 72 (.mv (.t 6)),
       .r 73 (.fld 3 (.t 8)),
       .r 74 (.ld1 (.t 73)),
       .r 75 (.mv (.t 9)),
       .r 76 (.mv (.t 9)),
       .r 77 (.len (.t 76)),
       .r 78 (.bin .sub (.t 77) (.c (.d (.int .i64 1)))),
       .x 79 (.trunc 1 (.t 75) (.t 78)) [(0, 72, .mv (.t 6)), (1, 73, .fld 3 (.t 8)), (2, 74, .ld1 (.t 73))],
       .x 0 (.mset .str (.t 72) (.t 74) (.t 79)) []]))))))))
  (.reg [.r 80 (.bin .add (.t 14) (.c (.d (.int .i64 1)))),
     .r 14 (.mv (.t 80))]))))
def sc_reply_book_B1 : SC := .block 0 (.loop sc_reply_book_L1)
/-- interchange/reply.book -/
def sc_reply_book : SC :=
  (.seq (.reg [.r 2 (.mv (.c (.nils))),
     .r 3 (.mv (.c (.nils)))])
  (.seq (.reg [.r 4 (.mv (.c (.nils)))])
  (.seq (.reg [.r 5 (.mv (.c (.nils)))])
  (.seq (.reg [.w 11 (.mkmap .str),
     .r 6 (.mv (.t 11))])
  (.seq (.seq (.reg [.r 12 (.mv (.t 0)),
     .r 13 (.len (.t 12)),
     .r 14 (.mv (.c (.d (.int .i64 0))))])
  sc_reply_book_B1)
  (.seq (.reg [.r 81 (.mv (.t 4)),
     .r 82 (.mv (.t 5)),
     .r 2 (.mv (.t 81)),
     .r 3 (.mv (.t 82))])
  .ret))))))
theorem fit_reply_book : fits Tryd.prog 54 Tryd.f54 sc_reply_book [.t 2, .t 3] 1 = true := by kernel_rfl

set_option maxRecDepth 100000 in
set_option maxHeartbeats 40000000 in
noncomputable def sims_G4_0_1 : (∀ (x0 : List Tapi_BookEvent), {m : Option ((List Tapi_Sending) × (List Int)) // ∀ r, m = some r → PureSpec Tryd.prog 54 [.slice (List.map rTapi_BookEvent x0)] (.tup [.slice (List.map rTapi_Sending r.1), .slice (List.map rowI r.2)])}) := by
  (intro x0; apply Subtype.mk; intro r hm; apply pure_walk Tryd.func54 fit_reply_book; unfold sc_reply_book)
  repeat' (first | with_reducible refine W_seq ?_ | with_reducible refine W_reg ?_ | with_reducible refine W_regE ?_ | with_reducible refine W_block ?_ | with_reducible refine W_skip ?_ | with_reducible refine W_ret ?_ | with_reducible refine W_exit ?_ | with_reducible refine O_nil ?_ | with_reducible refine K_seq ?_ | with_reducible refine K_seqE ?_ | with_reducible refine K_seqR ?_ | with_reducible refine K_block ?_ | with_reducible refine K_blockR ?_ | with_reducible refine K_blockE ?_ | ((with_reducible apply K_blockN); decide) | ((with_reducible apply O_lookO hm); (iterate 3 (simp only [push_cast, seval, -List.reduceReplicate]; rfl)); decide; (intro _; rfl); rfl; (focus (simp only [push_cast, seval, -List.reduceReplicate]; done)); (focus (simp only [push_cast, seval, -List.reduceReplicate]; done)); intro hm; rotate_left; intro w hm) | with_reducible refine O_o2r ?_ | ((with_reducible apply O_idxr hm); (iterate 2 (simp only [push_cast, seval, -List.reduceReplicate]; rfl)); (intro _; rfl); intro e hm) | ((with_reducible apply O_idxVr hm); (iterate 3 (simp only [push_cast, seval, -List.reduceReplicate]; rfl)); intro e hm) | ((with_reducible apply O_nilcO hm); (simp only [push_cast, seval, -List.reduceReplicate]; rfl); intro a hm) | ((with_reducible apply O_idxLr hm (row := rowI)); (iterate 2 (simp only [push_cast, seval, -List.reduceReplicate]; rfl)); (focus ((repeat' (first | rfl | (with_reducible first | apply fT_Tapi_Element | apply fT_Tapi_Marks | apply fT_Tapi_Segment | apply fT_Tapi_GroupReply | apply fT_Tapi_MessageReply | apply fT_Tapi_Flaw | apply fT_Tapi_Spot | apply fT_Tapi_Reply | apply fT_Tapi_BookEvent | apply fT_Tapi_Sending | apply fT_Tapi_Standing | apply f_optN | apply f_optS | apply f_some | apply f_tup | apply f_agg | apply f_ptr | apply f_fn | apply dv_slice | apply sv_d | apply f_cons | apply fold_nil | apply fold_cons | apply fold_app | apply f_rowI | apply f_rowY | apply f_rowS | apply f_rowB | apply f_rowL) | (with_reducible apply f_byte; decide))); done)); (simp only [push_cast, seval, -List.reduceReplicate]; rfl); (intro _; rfl); intro e hm) | ((with_reducible apply O_idxLr hm (row := rTapi_Sending)); (iterate 2 (simp only [push_cast, seval, -List.reduceReplicate]; rfl)); (focus ((repeat' (first | rfl | (with_reducible first | apply fT_Tapi_Element | apply fT_Tapi_Marks | apply fT_Tapi_Segment | apply fT_Tapi_GroupReply | apply fT_Tapi_MessageReply | apply fT_Tapi_Flaw | apply fT_Tapi_Spot | apply fT_Tapi_Reply | apply fT_Tapi_BookEvent | apply fT_Tapi_Sending | apply fT_Tapi_Standing | apply f_optN | apply f_optS | apply f_some | apply f_tup | apply f_agg | apply f_ptr | apply f_fn | apply dv_slice | apply sv_d | apply f_cons | apply fold_nil | apply fold_cons | apply fold_app | apply f_rowI | apply f_rowY | apply f_rowS | apply f_rowB | apply f_rowL) | (with_reducible apply f_byte; decide))); done)); (simp only [push_cast, seval, -List.reduceReplicate]; rfl); (intro _; rfl); intro e hm) | ((with_reducible apply O_r); (simp only [push_cast, seval, -List.reduceReplicate]; rfl); (first | exact trivial | omega)) | ((with_reducible apply O_ldV1r hm); (iterate 2 (simp only [push_cast, seval, -List.reduceReplicate]; rfl)); (intro _; rfl); intro e hm) | ((with_reducible apply O_strr hm); (iterate 2 (simp only [push_cast, seval, -List.reduceReplicate]; rfl)); intro hm) | ((with_reducible apply O_or hm); (simp only [push_cast, seval, -List.reduceReplicate]; rfl); rfl; intro v hm; rotate_left; intro v g hm) | ((with_reducible apply W_condT); (focus (simp only [push_cast, seval, -List.reduceReplicate]; done))) | ((with_reducible apply W_condF); (focus (simp only [push_cast, seval, -List.reduceReplicate]; done))) | ((with_reducible apply O_w); (simp only [push_cast, seval, -List.reduceReplicate]; rfl); (first | exact trivial | omega)) | ((with_reducible apply O_appL hm (row := rowI)); (iterate 5 (simp only [push_cast, seval, -List.reduceReplicate]; rfl)); (focus ((repeat' (first | rfl | (with_reducible first | apply fT_Tapi_Element | apply fT_Tapi_Marks | apply fT_Tapi_Segment | apply fT_Tapi_GroupReply | apply fT_Tapi_MessageReply | apply fT_Tapi_Flaw | apply fT_Tapi_Spot | apply fT_Tapi_Reply | apply fT_Tapi_BookEvent | apply fT_Tapi_Sending | apply fT_Tapi_Standing | apply f_optN | apply f_optS | apply f_some | apply f_tup | apply f_agg | apply f_ptr | apply f_fn | apply dv_slice | apply sv_d | apply f_cons | apply fold_nil | apply fold_cons | apply fold_app | apply f_rowI | apply f_rowY | apply f_rowS | apply f_rowB | apply f_rowL) | (with_reducible apply f_byte; decide))); done)); (focus ((repeat' (first | rfl | (with_reducible first | apply fT_Tapi_Element | apply fT_Tapi_Marks | apply fT_Tapi_Segment | apply fT_Tapi_GroupReply | apply fT_Tapi_MessageReply | apply fT_Tapi_Flaw | apply fT_Tapi_Spot | apply fT_Tapi_Reply | apply fT_Tapi_BookEvent | apply fT_Tapi_Sending | apply fT_Tapi_Standing | apply f_optN | apply f_optS | apply f_some | apply f_tup | apply f_agg | apply f_ptr | apply f_fn | apply dv_slice | apply sv_d | apply f_cons | apply fold_nil | apply fold_cons | apply fold_app | apply f_rowI | apply f_rowY | apply f_rowS | apply f_rowB | apply f_rowL) | (with_reducible apply f_byte; decide))); done)); rfl; decide; (intro _; rfl); intro hm) | ((with_reducible apply O_appL hm (row := rTapi_Sending)); (iterate 5 (simp only [push_cast, seval, -List.reduceReplicate]; rfl)); (focus ((repeat' (first | rfl | (with_reducible first | apply fT_Tapi_Element | apply fT_Tapi_Marks | apply fT_Tapi_Segment | apply fT_Tapi_GroupReply | apply fT_Tapi_MessageReply | apply fT_Tapi_Flaw | apply fT_Tapi_Spot | apply fT_Tapi_Reply | apply fT_Tapi_BookEvent | apply fT_Tapi_Sending | apply fT_Tapi_Standing | apply f_optN | apply f_optS | apply f_some | apply f_tup | apply f_agg | apply f_ptr | apply f_fn | apply dv_slice | apply sv_d | apply f_cons | apply fold_nil | apply fold_cons | apply fold_app | apply f_rowI | apply f_rowY | apply f_rowS | apply f_rowB | apply f_rowL) | (with_reducible apply f_byte; decide))); done)); (focus ((repeat' (first | rfl | (with_reducible first | apply fT_Tapi_Element | apply fT_Tapi_Marks | apply fT_Tapi_Segment | apply fT_Tapi_GroupReply | apply fT_Tapi_MessageReply | apply fT_Tapi_Flaw | apply fT_Tapi_Spot | apply fT_Tapi_Reply | apply fT_Tapi_BookEvent | apply fT_Tapi_Sending | apply fT_Tapi_Standing | apply f_optN | apply f_optS | apply f_some | apply f_tup | apply f_agg | apply f_ptr | apply f_fn | apply dv_slice | apply sv_d | apply f_cons | apply fold_nil | apply fold_cons | apply fold_app | apply f_rowI | apply f_rowY | apply f_rowS | apply f_rowB | apply f_rowL) | (with_reducible apply f_byte; decide))); done)); rfl; decide; (intro _; rfl); intro hm) | ((with_reducible apply O_appV hm); (iterate 4 (simp only [push_cast, seval, -List.reduceReplicate]; rfl)); (focus ((repeat' (first | rfl | (with_reducible first | apply fT_Tapi_Element | apply fT_Tapi_Marks | apply fT_Tapi_Segment | apply fT_Tapi_GroupReply | apply fT_Tapi_MessageReply | apply fT_Tapi_Flaw | apply fT_Tapi_Spot | apply fT_Tapi_Reply | apply fT_Tapi_BookEvent | apply fT_Tapi_Sending | apply fT_Tapi_Standing | apply f_optN | apply f_optS | apply f_some | apply f_tup | apply f_agg | apply f_ptr | apply f_fn | apply dv_slice | apply sv_d | apply f_cons | apply fold_nil | apply fold_cons | apply fold_app | apply f_rowI | apply f_rowY | apply f_rowS | apply f_rowB | apply f_rowL) | (with_reducible apply f_byte; decide))); done)); decide; (intro _; rfl); intro hm) | ((with_reducible apply O_appN hm); (focus (simp only [push_cast, seval, -List.reduceReplicate]; done)); (iterate 2 (simp only [push_cast, seval, -List.reduceReplicate]; rfl)); (focus ((repeat' (first | rfl | (with_reducible first | apply fT_Tapi_Element | apply fT_Tapi_Marks | apply fT_Tapi_Segment | apply fT_Tapi_GroupReply | apply fT_Tapi_MessageReply | apply fT_Tapi_Flaw | apply fT_Tapi_Spot | apply fT_Tapi_Reply | apply fT_Tapi_BookEvent | apply fT_Tapi_Sending | apply fT_Tapi_Standing | apply f_optN | apply f_optS | apply f_some | apply f_tup | apply f_agg | apply f_ptr | apply f_fn | apply dv_slice | apply sv_d | apply f_cons | apply fold_nil | apply fold_cons | apply fold_app | apply f_rowI | apply f_rowY | apply f_rowS | apply f_rowB | apply f_rowL) | (with_reducible apply f_byte; decide))); done)); decide; (intro _; rfl); intro hm) | ((with_reducible apply O_stV hm); (iterate 3 (simp only [push_cast, seval, -List.reduceReplicate]; rfl)); rfl; (intro _; rfl); rfl; (focus (intro a; simp only [push_cast, seval, -List.reduceReplicate]; rfl)); (focus (intro a; (repeat' (first | rfl | with_reducible apply eT_Tapi_Element | with_reducible apply eT_Tapi_Marks | with_reducible apply eT_Tapi_Segment | with_reducible apply eT_Tapi_GroupReply | with_reducible apply eT_Tapi_MessageReply | with_reducible apply eT_Tapi_Flaw | with_reducible apply eT_Tapi_Spot | with_reducible apply eT_Tapi_Reply | with_reducible apply eT_Tapi_BookEvent | with_reducible apply eT_Tapi_Sending | with_reducible apply eT_Tapi_Standing)); done)); intro e hm) | ((with_reducible apply O_appVX hm); (iterate 2 (simp only [push_cast, seval, -List.reduceReplicate]; rfl)); (focus ((repeat' (first | rfl | (with_reducible first | apply eR_nil | apply eR_app | apply eR_cons | apply eT_Tapi_Element | apply eT_Tapi_Marks | apply eT_Tapi_Segment | apply eT_Tapi_GroupReply | apply eT_Tapi_MessageReply | apply eT_Tapi_Flaw | apply eT_Tapi_Spot | apply eT_Tapi_Reply | apply eT_Tapi_BookEvent | apply eT_Tapi_Sending | apply eT_Tapi_Standing | apply eR_I | apply eR_Y | apply eR_S | apply eR_B) | (with_reducible apply sv_d; (focus ((repeat' (first | rfl | (with_reducible first | apply fT_Tapi_Element | apply fT_Tapi_Marks | apply fT_Tapi_Segment | apply fT_Tapi_GroupReply | apply fT_Tapi_MessageReply | apply fT_Tapi_Flaw | apply fT_Tapi_Spot | apply fT_Tapi_Reply | apply fT_Tapi_BookEvent | apply fT_Tapi_Sending | apply fT_Tapi_Standing | apply f_optN | apply f_optS | apply f_some | apply f_tup | apply f_agg | apply f_ptr | apply f_fn | apply dv_slice | apply sv_d | apply f_cons | apply fold_nil | apply fold_cons | apply fold_app | apply f_rowI | apply f_rowY | apply f_rowS | apply f_rowB | apply f_rowL) | (with_reducible apply f_byte; decide))); done))))); done)); (simp only [push_cast, seval, -List.reduceReplicate]; rfl); (focus ((repeat' (first | rfl | (with_reducible first | apply eR_nil | apply eR_app | apply eR_cons | apply eT_Tapi_Element | apply eT_Tapi_Marks | apply eT_Tapi_Segment | apply eT_Tapi_GroupReply | apply eT_Tapi_MessageReply | apply eT_Tapi_Flaw | apply eT_Tapi_Spot | apply eT_Tapi_Reply | apply eT_Tapi_BookEvent | apply eT_Tapi_Sending | apply eT_Tapi_Standing | apply eR_I | apply eR_Y | apply eR_S | apply eR_B) | (with_reducible apply sv_d; (focus ((repeat' (first | rfl | (with_reducible first | apply fT_Tapi_Element | apply fT_Tapi_Marks | apply fT_Tapi_Segment | apply fT_Tapi_GroupReply | apply fT_Tapi_MessageReply | apply fT_Tapi_Flaw | apply fT_Tapi_Spot | apply fT_Tapi_Reply | apply fT_Tapi_BookEvent | apply fT_Tapi_Sending | apply fT_Tapi_Standing | apply f_optN | apply f_optS | apply f_some | apply f_tup | apply f_agg | apply f_ptr | apply f_fn | apply dv_slice | apply sv_d | apply f_cons | apply fold_nil | apply fold_cons | apply fold_app | apply f_rowI | apply f_rowY | apply f_rowS | apply f_rowB | apply f_rowL) | (with_reducible apply f_byte; decide))); done))))); done)); (intro _; rfl); (focus ((repeat' (first | exact Rer_nil | ((with_reducible apply Rer_cons); (focus (simp only [push_cast, seval, -List.reduceReplicate]; rfl)); (focus (first | exact trivial | omega)); (focus (simp only [push_cast, seval, -List.reduceReplicate]))))); done)); intro hm) | ((with_reducible apply O_appX2 hm); (iterate 4 (simp only [push_cast, seval, -List.reduceReplicate]; rfl)); rfl; (focus ((repeat' (first | exact Rer_nil | ((with_reducible apply Rer_cons); (focus (simp only [push_cast, seval, -List.reduceReplicate]; rfl)); (focus (first | exact trivial | omega)); (focus (simp only [push_cast, seval, -List.reduceReplicate]))))); done)); intro hm) | ((with_reducible apply O_appNX hm); (focus (simp only [push_cast, seval, -List.reduceReplicate]; done)); (iterate 2 (simp only [push_cast, seval, -List.reduceReplicate]; rfl)); rfl; (focus ((repeat' (first | exact Rer_nil | ((with_reducible apply Rer_cons); (focus (simp only [push_cast, seval, -List.reduceReplicate]; rfl)); (focus (first | exact trivial | omega)); (focus (simp only [push_cast, seval, -List.reduceReplicate]))))); done)); intro hm) | ((with_reducible apply O_stVX hm); (iterate 3 (simp only [push_cast, seval, -List.reduceReplicate]; rfl)); rfl; (intro _; rfl); rfl; (focus (intro a; simp only [push_cast, seval, -List.reduceReplicate]; rfl)); (focus (intro a; (repeat' (first | rfl | with_reducible apply eT_Tapi_Element | with_reducible apply eT_Tapi_Marks | with_reducible apply eT_Tapi_Segment | with_reducible apply eT_Tapi_GroupReply | with_reducible apply eT_Tapi_MessageReply | with_reducible apply eT_Tapi_Flaw | with_reducible apply eT_Tapi_Spot | with_reducible apply eT_Tapi_Reply | with_reducible apply eT_Tapi_BookEvent | with_reducible apply eT_Tapi_Sending | with_reducible apply eT_Tapi_Standing)); done)); (focus (intro _; (repeat' (first | exact Rer_nil | ((with_reducible apply Rer_cons); (focus (simp only [push_cast, seval, -List.reduceReplicate]; rfl)); (focus (first | exact trivial | omega)); (focus (simp only [push_cast, seval, -List.reduceReplicate]))))); done)); intro e hm) | ((with_reducible apply O_truncX hm); (iterate 3 (simp only [push_cast, seval, -List.reduceReplicate]; rfl)); (focus (intro _; (repeat' (first | exact Rer_nil | ((with_reducible apply Rer_cons); (focus (simp only [push_cast, seval, -List.reduceReplicate]; rfl)); (focus (first | exact trivial | omega)); (focus (simp only [push_cast, seval, -List.reduceReplicate]))))); done)); intro l hm) | ((with_reducible apply O_x); (simp only [push_cast, seval, -List.reduceReplicate]; rfl); (first | exact trivial | omega); (focus ((repeat' (first | exact Rer_nil | ((with_reducible apply Rer_cons); (focus (simp only [push_cast, seval, -List.reduceReplicate]; rfl)); (focus (first | exact trivial | omega)); (focus (simp only [push_cast, seval, -List.reduceReplicate]))))); done))) | ((with_reducible apply O_lookM); (iterate 3 (simp only [push_cast, seval, -List.reduceReplicate]; rfl)); (focus (first | exact look_none (by assumption) | exact look_set)); rfl) | ((with_reducible apply S_condB hm); (simp only [push_cast, seval, -List.reduceReplicate]; rfl); intro hm; rotate_left; intro hm) | ((with_reducible apply K_end2 hm); (focus (simp only [resOf, resL, RV.get, push_cast, seval]; rfl)); (focus (first | (dsimp only; done) | (dsimp only; rfl) | rfl)); (focus ((repeat' (first | rfl | (with_reducible first | apply fT_Tapi_Element | apply fT_Tapi_Marks | apply fT_Tapi_Segment | apply fT_Tapi_GroupReply | apply fT_Tapi_MessageReply | apply fT_Tapi_Flaw | apply fT_Tapi_Spot | apply fT_Tapi_Reply | apply fT_Tapi_BookEvent | apply fT_Tapi_Sending | apply fT_Tapi_Standing | apply f_optN | apply f_optS | apply f_some | apply f_tup | apply f_agg | apply f_ptr | apply f_fn | apply dv_slice | apply sv_d | apply f_cons | apply fold_nil | apply fold_cons | apply fold_app | apply f_rowI | apply f_rowY | apply f_rowS | apply f_rowB | apply f_rowL) | (with_reducible apply f_byte; decide))); done))) | ((with_reducible apply K_leave hm); intro r hm) | ((with_reducible apply K_leaveR hm); intro r hm) | ((apply S_loopY (b := 0) (X := sc_reply_book_B1) (x := sc_reply_book_L1) rfl (fun (c : SV × SV) (s : (List Tapi_Sending) × (List Int) × (List ((List UInt8) × (List Int))) × Int) => st [(4, .vec 4), (5, .vec 5), (6, .mp 11), (12, c.1), (13, c.2), (14, .d (.int .i64 s.2.2.2))] [(4, .vec 53 5 (vrow rTapi_Sending s.1)), (5, .vec 3 1 (vrow rowI s.2.1)), (11, .map .str (encM .str (ownV 3 (List.replicate 1 .sh) rowI) s.2.2.1))]) (c := (_, _)) (s0 := (_, _, _, _)) hm); (focus (first | (dsimp only; done) | (dsimp only; rfl) | rfl)); (with_reducible refine Then.mk ?_ ?_); apply Imp.trans; (focus (apply imp_vecnil (slot := 4) (id := 4) (e := 53) (sz := 5); (focus (simp only [push_cast, seval, -List.reduceReplicate]; done)))); apply Imp.trans; (focus (apply imp_vecnil (slot := 5) (id := 5) (e := 3) (sz := 1); (focus (simp only [push_cast, seval, -List.reduceReplicate]; done))))) | ((apply W_openM (x := sc_reply_book_R8) 32 6 8 3 hm); (focus (simp only [push_cast, seval, -List.reduceReplicate]; rfl)); (focus (simp only [push_cast, seval, -List.reduceReplicate]; rfl)); (focus (simp only [push_cast, seval, -List.reduceReplicate]; rfl)); (focus decide); (focus (intro _; rfl)); (intro hl hm; unfold sc_reply_book_R8); rotate_left; (intro w hm; unfold sc_reply_book_R8)) | ((apply K_next (s' := (_, _, _, _)) hm); (focus (first | (dsimp only; done) | (dsimp only; rfl) | rfl)); (focus ((apply imp_stT; (repeat' (first | with_reducible exact keepT_nil | with_reducible exact keepC_nil | with_reducible apply keepT_cons | with_reducible apply keepC_cons | ((with_reducible apply svle_eq); (focus (first | (simp only [push_cast, seval]; rfl) | rfl)); (focus ((repeat' (first | rfl | (with_reducible first | apply fT_Tapi_Element | apply fT_Tapi_Marks | apply fT_Tapi_Segment | apply fT_Tapi_GroupReply | apply fT_Tapi_MessageReply | apply fT_Tapi_Flaw | apply fT_Tapi_Spot | apply fT_Tapi_Reply | apply fT_Tapi_BookEvent | apply fT_Tapi_Sending | apply fT_Tapi_Standing | apply f_optN | apply f_optS | apply f_some | apply f_tup | apply f_agg | apply f_ptr | apply f_fn | apply dv_slice | apply sv_d | apply f_cons | apply fold_nil | apply fold_cons | apply fold_app | apply f_rowI | apply f_rowY | apply f_rowS | apply f_rowB | apply f_rowL) | (with_reducible apply f_byte; decide))); done))) | ((with_reducible apply svle_td); (focus (first | (simp only [push_cast, seval]; rfl) | rfl)); (focus (first | (simp only [push_cast, seval]; rfl) | rfl)); (focus ((repeat' (first | rfl | (with_reducible first | apply fT_Tapi_Element | apply fT_Tapi_Marks | apply fT_Tapi_Segment | apply fT_Tapi_GroupReply | apply fT_Tapi_MessageReply | apply fT_Tapi_Flaw | apply fT_Tapi_Spot | apply fT_Tapi_Reply | apply fT_Tapi_BookEvent | apply fT_Tapi_Sending | apply fT_Tapi_Standing | apply f_optN | apply f_optS | apply f_some | apply f_tup | apply f_agg | apply f_ptr | apply f_fn | apply dv_slice | apply sv_d | apply f_cons | apply fold_nil | apply fold_cons | apply fold_app | apply f_rowI | apply f_rowY | apply f_rowS | apply f_rowB | apply f_rowL) | (with_reducible apply f_byte; decide))); done))) | ((with_reducible apply chle_eq); (focus (first | (simp only [push_cast, seval]; rfl) | rfl)); (first | with_reducible exact chle_rfl rfl | with_reducible exact chle_map0 | with_reducible apply chle_vec | with_reducible apply chle_box)) | (with_reducible first | apply cT_Tapi_Element | apply cT_Tapi_Marks | apply cT_Tapi_Segment | apply cT_Tapi_GroupReply | apply cT_Tapi_MessageReply | apply cT_Tapi_Flaw | apply cT_Tapi_Spot | apply cT_Tapi_Reply | apply cT_Tapi_BookEvent | apply cT_Tapi_Sending | apply cT_Tapi_Standing | apply r_shS | apply r_shI | apply r_rflO | apply r_oneO | apply r_appO | apply r_nilO | apply c_ownN | apply c_ownL | apply vc_rfl | apply vc_nil | apply vc_cons | apply r_rfl | apply r_rows | apply r_nil | apply r_app | apply r_cons | apply c_rowI | apply c_rowY | apply c_rowS | apply c_rowB | apply c_rowL))); done)))) | ((apply K_brk (s' := (_, _, _, _)) hm); (focus (first | (dsimp only; done) | (dsimp only; rfl) | rfl)); (focus ((apply imp_stT; (repeat' (first | with_reducible exact keepT_nil | with_reducible exact keepC_nil | with_reducible apply keepT_cons | with_reducible apply keepC_cons | ((with_reducible apply svle_eq); (focus (first | (simp only [push_cast, seval]; rfl) | rfl)); (focus ((repeat' (first | rfl | (with_reducible first | apply fT_Tapi_Element | apply fT_Tapi_Marks | apply fT_Tapi_Segment | apply fT_Tapi_GroupReply | apply fT_Tapi_MessageReply | apply fT_Tapi_Flaw | apply fT_Tapi_Spot | apply fT_Tapi_Reply | apply fT_Tapi_BookEvent | apply fT_Tapi_Sending | apply fT_Tapi_Standing | apply f_optN | apply f_optS | apply f_some | apply f_tup | apply f_agg | apply f_ptr | apply f_fn | apply dv_slice | apply sv_d | apply f_cons | apply fold_nil | apply fold_cons | apply fold_app | apply f_rowI | apply f_rowY | apply f_rowS | apply f_rowB | apply f_rowL) | (with_reducible apply f_byte; decide))); done))) | ((with_reducible apply svle_td); (focus (first | (simp only [push_cast, seval]; rfl) | rfl)); (focus (first | (simp only [push_cast, seval]; rfl) | rfl)); (focus ((repeat' (first | rfl | (with_reducible first | apply fT_Tapi_Element | apply fT_Tapi_Marks | apply fT_Tapi_Segment | apply fT_Tapi_GroupReply | apply fT_Tapi_MessageReply | apply fT_Tapi_Flaw | apply fT_Tapi_Spot | apply fT_Tapi_Reply | apply fT_Tapi_BookEvent | apply fT_Tapi_Sending | apply fT_Tapi_Standing | apply f_optN | apply f_optS | apply f_some | apply f_tup | apply f_agg | apply f_ptr | apply f_fn | apply dv_slice | apply sv_d | apply f_cons | apply fold_nil | apply fold_cons | apply fold_app | apply f_rowI | apply f_rowY | apply f_rowS | apply f_rowB | apply f_rowL) | (with_reducible apply f_byte; decide))); done))) | ((with_reducible apply chle_eq); (focus (first | (simp only [push_cast, seval]; rfl) | rfl)); (first | with_reducible exact chle_rfl rfl | with_reducible exact chle_map0 | with_reducible apply chle_vec | with_reducible apply chle_box)) | (with_reducible first | apply cT_Tapi_Element | apply cT_Tapi_Marks | apply cT_Tapi_Segment | apply cT_Tapi_GroupReply | apply cT_Tapi_MessageReply | apply cT_Tapi_Flaw | apply cT_Tapi_Spot | apply cT_Tapi_Reply | apply cT_Tapi_BookEvent | apply cT_Tapi_Sending | apply cT_Tapi_Standing | apply r_shS | apply r_shI | apply r_rflO | apply r_oneO | apply r_appO | apply r_nilO | apply c_ownN | apply c_ownL | apply vc_rfl | apply vc_nil | apply vc_cons | apply r_rfl | apply r_rows | apply r_nil | apply r_app | apply r_cons | apply c_rowI | apply c_rowY | apply c_rowS | apply c_rowB | apply c_rowL))); done)))) | ((apply K_next (s' := (_, _, _, _)) hm); (focus (first | (dsimp only; done) | (dsimp only; rfl) | rfl)); (focus (apply Imp.trans; (focus (apply imp_closeR (id := 11) (id' := 28); (focus decide); (focus (simp only [push_cast, seval, -List.reduceReplicate]; rfl)); (focus rfl); (focus (simp only [push_cast, seval, -List.reduceReplicate]; rfl)); (focus ((repeat' (first | (with_reducible first | apply cT_Tapi_Element | apply cT_Tapi_Marks | apply cT_Tapi_Segment | apply cT_Tapi_GroupReply | apply cT_Tapi_MessageReply | apply cT_Tapi_Flaw | apply cT_Tapi_Spot | apply cT_Tapi_Reply | apply cT_Tapi_BookEvent | apply cT_Tapi_Sending | apply cT_Tapi_Standing | apply r_shS | apply r_shI | apply r_rflO | apply r_oneO | apply r_appO | apply r_nilO | apply c_ownN | apply c_ownL | apply vc_rfl | apply vc_nil | apply vc_cons | apply r_rfl | apply r_rows | apply r_nil | apply r_app | apply r_cons | apply c_rowI | apply c_rowY | apply c_rowS | apply c_rowB | apply c_rowL) | ((with_reducible apply svle_rfl); (focus ((repeat' (first | rfl | (with_reducible first | apply fT_Tapi_Element | apply fT_Tapi_Marks | apply fT_Tapi_Segment | apply fT_Tapi_GroupReply | apply fT_Tapi_MessageReply | apply fT_Tapi_Flaw | apply fT_Tapi_Spot | apply fT_Tapi_Reply | apply fT_Tapi_BookEvent | apply fT_Tapi_Sending | apply fT_Tapi_Standing | apply f_optN | apply f_optS | apply f_some | apply f_tup | apply f_agg | apply f_ptr | apply f_fn | apply dv_slice | apply sv_d | apply f_cons | apply fold_nil | apply fold_cons | apply fold_app | apply f_rowI | apply f_rowY | apply f_rowS | apply f_rowB | apply f_rowL) | (with_reducible apply f_byte; decide))); done))))); done)); (focus (intro _; rfl)))); (apply imp_stT; (repeat' (first | with_reducible exact keepT_nil | with_reducible exact keepC_nil | with_reducible apply keepT_cons | with_reducible apply keepC_cons | ((with_reducible apply svle_eq); (focus (first | (simp only [push_cast, seval]; rfl) | rfl)); (focus ((repeat' (first | rfl | (with_reducible first | apply fT_Tapi_Element | apply fT_Tapi_Marks | apply fT_Tapi_Segment | apply fT_Tapi_GroupReply | apply fT_Tapi_MessageReply | apply fT_Tapi_Flaw | apply fT_Tapi_Spot | apply fT_Tapi_Reply | apply fT_Tapi_BookEvent | apply fT_Tapi_Sending | apply fT_Tapi_Standing | apply f_optN | apply f_optS | apply f_some | apply f_tup | apply f_agg | apply f_ptr | apply f_fn | apply dv_slice | apply sv_d | apply f_cons | apply fold_nil | apply fold_cons | apply fold_app | apply f_rowI | apply f_rowY | apply f_rowS | apply f_rowB | apply f_rowL) | (with_reducible apply f_byte; decide))); done))) | ((with_reducible apply svle_td); (focus (first | (simp only [push_cast, seval]; rfl) | rfl)); (focus (first | (simp only [push_cast, seval]; rfl) | rfl)); (focus ((repeat' (first | rfl | (with_reducible first | apply fT_Tapi_Element | apply fT_Tapi_Marks | apply fT_Tapi_Segment | apply fT_Tapi_GroupReply | apply fT_Tapi_MessageReply | apply fT_Tapi_Flaw | apply fT_Tapi_Spot | apply fT_Tapi_Reply | apply fT_Tapi_BookEvent | apply fT_Tapi_Sending | apply fT_Tapi_Standing | apply f_optN | apply f_optS | apply f_some | apply f_tup | apply f_agg | apply f_ptr | apply f_fn | apply dv_slice | apply sv_d | apply f_cons | apply fold_nil | apply fold_cons | apply fold_app | apply f_rowI | apply f_rowY | apply f_rowS | apply f_rowB | apply f_rowL) | (with_reducible apply f_byte; decide))); done))) | ((with_reducible apply chle_eq); (focus (first | (simp only [push_cast, seval]; rfl) | rfl)); (first | with_reducible exact chle_rfl rfl | with_reducible exact chle_map0 | with_reducible apply chle_vec | with_reducible apply chle_box)) | (with_reducible first | apply cT_Tapi_Element | apply cT_Tapi_Marks | apply cT_Tapi_Segment | apply cT_Tapi_GroupReply | apply cT_Tapi_MessageReply | apply cT_Tapi_Flaw | apply cT_Tapi_Spot | apply cT_Tapi_Reply | apply cT_Tapi_BookEvent | apply cT_Tapi_Sending | apply cT_Tapi_Standing | apply r_shS | apply r_shI | apply r_rflO | apply r_oneO | apply r_appO | apply r_nilO | apply c_ownN | apply c_ownL | apply vc_rfl | apply vc_nil | apply vc_cons | apply r_rfl | apply r_rows | apply r_nil | apply r_app | apply r_cons | apply c_rowI | apply c_rowY | apply c_rowS | apply c_rowB | apply c_rowL))); done)))) | ((apply K_next (s' := (_, _, _, _)) hm); (focus (first | (dsimp only; done) | (dsimp only; rfl) | rfl)); (focus (apply Imp.trans; (focus (apply imp_closeR (id := 11) (id' := 32); (focus decide); (focus (simp only [push_cast, seval, -List.reduceReplicate]; rfl)); (focus rfl); (focus (simp only [push_cast, seval, -List.reduceReplicate]; rfl)); (focus ((repeat' (first | (with_reducible first | apply cT_Tapi_Element | apply cT_Tapi_Marks | apply cT_Tapi_Segment | apply cT_Tapi_GroupReply | apply cT_Tapi_MessageReply | apply cT_Tapi_Flaw | apply cT_Tapi_Spot | apply cT_Tapi_Reply | apply cT_Tapi_BookEvent | apply cT_Tapi_Sending | apply cT_Tapi_Standing | apply r_shS | apply r_shI | apply r_rflO | apply r_oneO | apply r_appO | apply r_nilO | apply c_ownN | apply c_ownL | apply vc_rfl | apply vc_nil | apply vc_cons | apply r_rfl | apply r_rows | apply r_nil | apply r_app | apply r_cons | apply c_rowI | apply c_rowY | apply c_rowS | apply c_rowB | apply c_rowL) | ((with_reducible apply svle_rfl); (focus ((repeat' (first | rfl | (with_reducible first | apply fT_Tapi_Element | apply fT_Tapi_Marks | apply fT_Tapi_Segment | apply fT_Tapi_GroupReply | apply fT_Tapi_MessageReply | apply fT_Tapi_Flaw | apply fT_Tapi_Spot | apply fT_Tapi_Reply | apply fT_Tapi_BookEvent | apply fT_Tapi_Sending | apply fT_Tapi_Standing | apply f_optN | apply f_optS | apply f_some | apply f_tup | apply f_agg | apply f_ptr | apply f_fn | apply dv_slice | apply sv_d | apply f_cons | apply fold_nil | apply fold_cons | apply fold_app | apply f_rowI | apply f_rowY | apply f_rowS | apply f_rowB | apply f_rowL) | (with_reducible apply f_byte; decide))); done))))); done)); (focus (intro _; rfl)))); (apply imp_stT; (repeat' (first | with_reducible exact keepT_nil | with_reducible exact keepC_nil | with_reducible apply keepT_cons | with_reducible apply keepC_cons | ((with_reducible apply svle_eq); (focus (first | (simp only [push_cast, seval]; rfl) | rfl)); (focus ((repeat' (first | rfl | (with_reducible first | apply fT_Tapi_Element | apply fT_Tapi_Marks | apply fT_Tapi_Segment | apply fT_Tapi_GroupReply | apply fT_Tapi_MessageReply | apply fT_Tapi_Flaw | apply fT_Tapi_Spot | apply fT_Tapi_Reply | apply fT_Tapi_BookEvent | apply fT_Tapi_Sending | apply fT_Tapi_Standing | apply f_optN | apply f_optS | apply f_some | apply f_tup | apply f_agg | apply f_ptr | apply f_fn | apply dv_slice | apply sv_d | apply f_cons | apply fold_nil | apply fold_cons | apply fold_app | apply f_rowI | apply f_rowY | apply f_rowS | apply f_rowB | apply f_rowL) | (with_reducible apply f_byte; decide))); done))) | ((with_reducible apply svle_td); (focus (first | (simp only [push_cast, seval]; rfl) | rfl)); (focus (first | (simp only [push_cast, seval]; rfl) | rfl)); (focus ((repeat' (first | rfl | (with_reducible first | apply fT_Tapi_Element | apply fT_Tapi_Marks | apply fT_Tapi_Segment | apply fT_Tapi_GroupReply | apply fT_Tapi_MessageReply | apply fT_Tapi_Flaw | apply fT_Tapi_Spot | apply fT_Tapi_Reply | apply fT_Tapi_BookEvent | apply fT_Tapi_Sending | apply fT_Tapi_Standing | apply f_optN | apply f_optS | apply f_some | apply f_tup | apply f_agg | apply f_ptr | apply f_fn | apply dv_slice | apply sv_d | apply f_cons | apply fold_nil | apply fold_cons | apply fold_app | apply f_rowI | apply f_rowY | apply f_rowS | apply f_rowB | apply f_rowL) | (with_reducible apply f_byte; decide))); done))) | ((with_reducible apply chle_eq); (focus (first | (simp only [push_cast, seval]; rfl) | rfl)); (first | with_reducible exact chle_rfl rfl | with_reducible exact chle_map0 | with_reducible apply chle_vec | with_reducible apply chle_box)) | (with_reducible first | apply cT_Tapi_Element | apply cT_Tapi_Marks | apply cT_Tapi_Segment | apply cT_Tapi_GroupReply | apply cT_Tapi_MessageReply | apply cT_Tapi_Flaw | apply cT_Tapi_Spot | apply cT_Tapi_Reply | apply cT_Tapi_BookEvent | apply cT_Tapi_Sending | apply cT_Tapi_Standing | apply r_shS | apply r_shI | apply r_rflO | apply r_oneO | apply r_appO | apply r_nilO | apply c_ownN | apply c_ownL | apply vc_rfl | apply vc_nil | apply vc_cons | apply r_rfl | apply r_rows | apply r_nil | apply r_app | apply r_cons | apply c_rowI | apply c_rowY | apply c_rowS | apply c_rowB | apply c_rowL))); done)))) | ((apply K_next (s' := (_, _, _, _)) hm); (focus (first | (dsimp only; done) | (dsimp only; rfl) | rfl)); (focus (apply Imp.trans; (focus (apply imp_closeR (id := 11) (id' := 46); (focus decide); (focus (simp only [push_cast, seval, -List.reduceReplicate]; rfl)); (focus rfl); (focus (simp only [push_cast, seval, -List.reduceReplicate]; rfl)); (focus ((repeat' (first | (with_reducible first | apply cT_Tapi_Element | apply cT_Tapi_Marks | apply cT_Tapi_Segment | apply cT_Tapi_GroupReply | apply cT_Tapi_MessageReply | apply cT_Tapi_Flaw | apply cT_Tapi_Spot | apply cT_Tapi_Reply | apply cT_Tapi_BookEvent | apply cT_Tapi_Sending | apply cT_Tapi_Standing | apply r_shS | apply r_shI | apply r_rflO | apply r_oneO | apply r_appO | apply r_nilO | apply c_ownN | apply c_ownL | apply vc_rfl | apply vc_nil | apply vc_cons | apply r_rfl | apply r_rows | apply r_nil | apply r_app | apply r_cons | apply c_rowI | apply c_rowY | apply c_rowS | apply c_rowB | apply c_rowL) | ((with_reducible apply svle_rfl); (focus ((repeat' (first | rfl | (with_reducible first | apply fT_Tapi_Element | apply fT_Tapi_Marks | apply fT_Tapi_Segment | apply fT_Tapi_GroupReply | apply fT_Tapi_MessageReply | apply fT_Tapi_Flaw | apply fT_Tapi_Spot | apply fT_Tapi_Reply | apply fT_Tapi_BookEvent | apply fT_Tapi_Sending | apply fT_Tapi_Standing | apply f_optN | apply f_optS | apply f_some | apply f_tup | apply f_agg | apply f_ptr | apply f_fn | apply dv_slice | apply sv_d | apply f_cons | apply fold_nil | apply fold_cons | apply fold_app | apply f_rowI | apply f_rowY | apply f_rowS | apply f_rowB | apply f_rowL) | (with_reducible apply f_byte; decide))); done))))); done)); (focus (intro _; rfl)))); (apply imp_stT; (repeat' (first | with_reducible exact keepT_nil | with_reducible exact keepC_nil | with_reducible apply keepT_cons | with_reducible apply keepC_cons | ((with_reducible apply svle_eq); (focus (first | (simp only [push_cast, seval]; rfl) | rfl)); (focus ((repeat' (first | rfl | (with_reducible first | apply fT_Tapi_Element | apply fT_Tapi_Marks | apply fT_Tapi_Segment | apply fT_Tapi_GroupReply | apply fT_Tapi_MessageReply | apply fT_Tapi_Flaw | apply fT_Tapi_Spot | apply fT_Tapi_Reply | apply fT_Tapi_BookEvent | apply fT_Tapi_Sending | apply fT_Tapi_Standing | apply f_optN | apply f_optS | apply f_some | apply f_tup | apply f_agg | apply f_ptr | apply f_fn | apply dv_slice | apply sv_d | apply f_cons | apply fold_nil | apply fold_cons | apply fold_app | apply f_rowI | apply f_rowY | apply f_rowS | apply f_rowB | apply f_rowL) | (with_reducible apply f_byte; decide))); done))) | ((with_reducible apply svle_td); (focus (first | (simp only [push_cast, seval]; rfl) | rfl)); (focus (first | (simp only [push_cast, seval]; rfl) | rfl)); (focus ((repeat' (first | rfl | (with_reducible first | apply fT_Tapi_Element | apply fT_Tapi_Marks | apply fT_Tapi_Segment | apply fT_Tapi_GroupReply | apply fT_Tapi_MessageReply | apply fT_Tapi_Flaw | apply fT_Tapi_Spot | apply fT_Tapi_Reply | apply fT_Tapi_BookEvent | apply fT_Tapi_Sending | apply fT_Tapi_Standing | apply f_optN | apply f_optS | apply f_some | apply f_tup | apply f_agg | apply f_ptr | apply f_fn | apply dv_slice | apply sv_d | apply f_cons | apply fold_nil | apply fold_cons | apply fold_app | apply f_rowI | apply f_rowY | apply f_rowS | apply f_rowB | apply f_rowL) | (with_reducible apply f_byte; decide))); done))) | ((with_reducible apply chle_eq); (focus (first | (simp only [push_cast, seval]; rfl) | rfl)); (first | with_reducible exact chle_rfl rfl | with_reducible exact chle_map0 | with_reducible apply chle_vec | with_reducible apply chle_box)) | (with_reducible first | apply cT_Tapi_Element | apply cT_Tapi_Marks | apply cT_Tapi_Segment | apply cT_Tapi_GroupReply | apply cT_Tapi_MessageReply | apply cT_Tapi_Flaw | apply cT_Tapi_Spot | apply cT_Tapi_Reply | apply cT_Tapi_BookEvent | apply cT_Tapi_Sending | apply cT_Tapi_Standing | apply r_shS | apply r_shI | apply r_rflO | apply r_oneO | apply r_appO | apply r_nilO | apply c_ownN | apply c_ownL | apply vc_rfl | apply vc_nil | apply vc_cons | apply r_rfl | apply r_rows | apply r_nil | apply r_app | apply r_cons | apply c_rowI | apply c_rowY | apply c_rowS | apply c_rowB | apply c_rowL))); done)))) | (((with_reducible apply K_brkN hm); (focus decide); intro r hm)) | (((with_reducible apply K_brkR hm); intro r hm)) | (((with_reducible apply LoopB.of); (focus (first | (dsimp only; done) | (dsimp only; rfl) | rfl)); (focus ((intro _; repeat' (first | with_reducible exact impC_end | with_reducible exact impC_endF | with_reducible refine impC_seq ?_ | with_reducible refine impC_block ?_ | ((with_reducible refine impC_rnd ?_); intro _) | ((with_reducible refine impC_brk ?_); intro _))))); (intro s o hm; first | unfold sc_reply_book_L1); rotate_left; intro s hm)) | (((apply imp_stT; (repeat' (first | with_reducible exact keepT_nil | with_reducible exact keepC_nil | with_reducible apply keepT_cons | with_reducible apply keepC_cons | ((with_reducible apply svle_eq); (focus (first | (simp only [push_cast, seval]; rfl) | rfl)); (focus ((repeat' (first | rfl | (with_reducible first | apply fT_Tapi_Element | apply fT_Tapi_Marks | apply fT_Tapi_Segment | apply fT_Tapi_GroupReply | apply fT_Tapi_MessageReply | apply fT_Tapi_Flaw | apply fT_Tapi_Spot | apply fT_Tapi_Reply | apply fT_Tapi_BookEvent | apply fT_Tapi_Sending | apply fT_Tapi_Standing | apply f_optN | apply f_optS | apply f_some | apply f_tup | apply f_agg | apply f_ptr | apply f_fn | apply dv_slice | apply sv_d | apply f_cons | apply fold_nil | apply fold_cons | apply fold_app | apply f_rowI | apply f_rowY | apply f_rowS | apply f_rowB | apply f_rowL) | (with_reducible apply f_byte; decide))); done))) | ((with_reducible apply svle_td); (focus (first | (simp only [push_cast, seval]; rfl) | rfl)); (focus (first | (simp only [push_cast, seval]; rfl) | rfl)); (focus ((repeat' (first | rfl | (with_reducible first | apply fT_Tapi_Element | apply fT_Tapi_Marks | apply fT_Tapi_Segment | apply fT_Tapi_GroupReply | apply fT_Tapi_MessageReply | apply fT_Tapi_Flaw | apply fT_Tapi_Spot | apply fT_Tapi_Reply | apply fT_Tapi_BookEvent | apply fT_Tapi_Sending | apply fT_Tapi_Standing | apply f_optN | apply f_optS | apply f_some | apply f_tup | apply f_agg | apply f_ptr | apply f_fn | apply dv_slice | apply sv_d | apply f_cons | apply fold_nil | apply fold_cons | apply fold_app | apply f_rowI | apply f_rowY | apply f_rowS | apply f_rowB | apply f_rowL) | (with_reducible apply f_byte; decide))); done))) | ((with_reducible apply chle_eq); (focus (first | (simp only [push_cast, seval]; rfl) | rfl)); (first | with_reducible exact chle_rfl rfl | with_reducible exact chle_map0 | with_reducible apply chle_vec | with_reducible apply chle_box)) | (with_reducible first | apply cT_Tapi_Element | apply cT_Tapi_Marks | apply cT_Tapi_Segment | apply cT_Tapi_GroupReply | apply cT_Tapi_MessageReply | apply cT_Tapi_Flaw | apply cT_Tapi_Spot | apply cT_Tapi_Reply | apply cT_Tapi_BookEvent | apply cT_Tapi_Sending | apply cT_Tapi_Standing | apply r_shS | apply r_shI | apply r_rflO | apply r_oneO | apply r_appO | apply r_nilO | apply c_ownN | apply c_ownL | apply vc_rfl | apply vc_nil | apply vc_cons | apply r_rfl | apply r_rows | apply r_nil | apply r_app | apply r_cons | apply c_rowI | apply c_rowY | apply c_rowS | apply c_rowB | apply c_rowL))); done))))
noncomputable def m_reply_book (x0 : List Tapi_BookEvent) : Option ((List Tapi_Sending) × (List Int)) := (sims_G4_0_1 x0).1
theorem spec_reply_book (x0 : List Tapi_BookEvent) : ∀ r, m_reply_book x0 = some r → PureSpec Tryd.prog 54 [.slice (List.map rTapi_BookEvent x0)] (.tup [.slice (List.map rTapi_Sending r.1), .slice (List.map rowI r.2)]) := (sims_G4_0_1 x0).2

/-- interchange/kit.IsRef -/
def sc_kit_IsRef : SC :=
  (.seq (.reg [.r 2 (.mv (.c (.d (.bool false))))])
  (.seq (.reg (.r 3 (.mv (.t 0)) :: .r 4 (.lenT (.t 3)) :: .r 5 (.bin .geq (.t 4) (.c (.d (.int .i64 1)))) :: .r 6 (.mv (.t 5)) :: gapp [7, 8, 9] 6 true (.r 7 (.mv (.t 0)) :: .r 8 (.lenT (.t 7)) :: .r 9 (.bin .leq (.t 8) (.c (.d (.int .i64 14)))) :: []) (.r 10 (.pick (.t 6) (.t 9) (.c (.d (.bool false)))) :: .r 11 (.mv (.t 10)) :: gapp [12, 13, 14] 11 true (.r 12 (.mv (.t 0)) :: .c 13 (.f 89) [.t 12, .c (.d (.str [65, 66, 67, 68, 69, 70, 71, 72, 73, 74, 75, 76, 77, 78, 79, 80, 81, 82, 83, 84, 85, 86, 87, 88, 89, 90, 48, 49, 50, 51, 52, 53, 54, 55, 56, 57, 45]))] :: .r 14 (.bin .eql (.t 13) (.c (.d (.str [])))) :: []) (.r 15 (.pick (.t 11) (.t 14) (.c (.d (.bool false)))) :: .r 2 (.mv (.t 15)) :: []))))
  .ret))
theorem fit_kit_IsRef : fits Tryd.prog 61 Tryd.f61 sc_kit_IsRef [.t 2] 1 = true := by kernel_rfl

/-- interchange/reply.isVerdict -/
def sc_reply_isVerdict : SC :=
  (.seq (.reg [.r 2 (.mv (.c (.d (.bool false))))])
  (.seq (.reg [.r 3 (.mv (.t 0)),
     .c 4 (.f 70) [.t 3, .c (.d (.int .i64 1)), .c (.d (.int .i64 3))],
     .r 5 (.not (.t 4)),
     .r 2 (.mv (.t 5))])
  .ret))
theorem fit_reply_isVerdict : fits Tryd.prog 62 Tryd.f62 sc_reply_isVerdict [.t 2] 1 = true := by kernel_rfl

/-- slices.ContainsFunc[[]interchange/api.GroupReply,interchange/api.GroupReply] -/
def sc_slices_ContainsFunc_interchange_api_GroupReply_interchange_api_GroupReply : SC :=
  (.seq (.reg [.r 4 (.mv (.c (.d (.bool false))))])
  (.seq (.reg [.r 5 (.mv (.t 0)),
     .r 6 (.mv (.t 1)),
     .c 7 (.f 119) [.t 5, .t 6],
     .r 8 (.bin .geq (.t 7) (.c (.d (.int .i64 0)))),
     .r 4 (.mv (.t 8))])
  .ret))
theorem fit_slices_ContainsFunc_interchange_api_GroupReply_interchange_api_GroupReply : fits Tryd.prog 90 Tryd.f90 sc_slices_ContainsFunc_interchange_api_GroupReply_interchange_api_GroupReply [.t 4] 2 = true := by kernel_rfl

/-- slices.ContainsFunc[[]interchange/api.MessageReply,interchange/api.MessageReply] -/
def sc_slices_ContainsFunc_interchange_api_MessageReply_interchange_api_MessageReply : SC :=
  (.seq (.reg [.r 4 (.mv (.c (.d (.bool false))))])
  (.seq (.reg [.r 5 (.mv (.t 0)),
     .r 6 (.mv (.t 1)),
     .c 7 (.f 152) [.t 5, .t 6],
     .r 8 (.bin .geq (.t 7) (.c (.d (.int .i64 0)))),
     .r 4 (.mv (.t 8))])
  .ret))
theorem fit_slices_ContainsFunc_interchange_api_MessageReply_interchange_api_MessageReply : fits Tryd.prog 120 Tryd.f120 sc_slices_ContainsFunc_interchange_api_MessageReply_interchange_api_MessageReply [.t 4] 2 = true := by kernel_rfl

/-- interchange/reply.isFlaw -/
def sc_reply_isFlaw : SC :=
  (.seq (.reg [.r 2 (.mv (.c (.d (.bool false))))])
  (.seq (.reg [.r 3 (.mv (.t 0)),
     .c 4 (.f 70) [.t 3, .c (.d (.int .i64 1)), .c (.d (.int .i64 12))],
     .r 5 (.not (.t 4)),
     .r 2 (.mv (.t 5))])
  .ret))
theorem fit_reply_isFlaw : fits Tryd.prog 153 Tryd.f153 sc_reply_isFlaw [.t 2] 1 = true := by kernel_rfl

/-- interchange/kit.IsName -/
def sc_kit_IsName : SC :=
  (.seq (.reg [.r 2 (.mv (.c (.d (.bool false))))])
  (.seq (.seq (.reg (.r 3 (.mv (.t 0)) :: .r 4 (.lenT (.t 3)) :: .r 5 (.bin .lss (.t 4) (.c (.d (.int .i64 1)))) :: .r 6 (.mv (.t 5)) :: gapp [7, 8, 9] 6 false (.r 7 (.mv (.t 0)) :: .r 8 (.lenT (.t 7)) :: .r 9 (.bin .gtr (.t 8) (.c (.d (.int .i64 40)))) :: []) (.r 10 (.pick (.t 6) (.c (.d (.bool true))) (.t 9)) :: .r 11 (.mv (.t 10)) :: gapp [12, 13, 14] 11 false (.r 12 (.mv (.t 0)) :: .r 13 (.sidx (.t 12) (.c (.d (.int .i64 0)))) :: .r 14 (.bin .lss (.t 13) (.c (.d (.int .u8 97)))) :: []) (.r 15 (.pick (.t 11) (.c (.d (.bool true))) (.t 14)) :: .r 16 (.mv (.t 15)) :: gapp [17, 18, 19] 16 false (.r 17 (.mv (.t 0)) :: .r 18 (.sidx (.t 17) (.c (.d (.int .i64 0)))) :: .r 19 (.bin .gtr (.t 18) (.c (.d (.int .u8 122)))) :: []) (.r 20 (.pick (.t 16) (.c (.d (.bool true))) (.t 19)) :: [])))))
  (.cond (.t 20)
    (.seq (.reg [.r 2 (.mv (.c (.d (.bool false))))])
    .ret)
    .skip))
  (.seq (.reg [.r 21 (.mv (.t 0)),
     .c 22 (.f 89) [.t 21, .c (.d (.str [97, 98, 99, 100, 101, 102, 103, 104, 105, 106, 107, 108, 109, 110, 111, 112, 113, 114, 115, 116, 117, 118, 119, 120, 121, 122, 48, 49, 50, 51, 52, 53, 54, 55, 56, 57, 45]))],
     .r 23 (.bin .eql (.t 22) (.c (.d (.str [])))),
     .r 2 (.mv (.t 23))])
  .ret)))
theorem fit_kit_IsName : fits Tryd.prog 123 Tryd.f123 sc_kit_IsName [.t 2] 1 = true := by kernel_rfl

/-- interchange/reply.together$1 -/
def sc_reply_together_1 : SC :=
  (.seq (.reg [.r 1 (.boxI (.t 0)),
     .r 2 (.mv (.c (.d (.raw .nilFunc))))])
  (.seq (.reg [.r 3 (.mkfn 125 [.t 1]),
     .r 2 (.mv (.t 3))])
  .ret))
theorem fit_reply_together_1 : fits Tryd.prog 124 Tryd.f124 sc_reply_together_1 [.t 2] 1 = true := by kernel_rfl

/-- slices.ContainsFunc[[]int,int] -/
def sc_slices_ContainsFunc_int_int : SC :=
  (.seq (.reg [.r 4 (.mv (.c (.d (.bool false))))])
  (.seq (.reg [.r 5 (.mv (.t 0)),
     .r 6 (.mv (.t 1)),
     .c 7 (.f 154) [.t 5, .t 6],
     .r 8 (.bin .geq (.t 7) (.c (.d (.int .i64 0)))),
     .r 4 (.mv (.t 8))])
  .ret))
theorem fit_slices_ContainsFunc_int_int : fits Tryd.prog 126 Tryd.f126 sc_slices_ContainsFunc_int_int [.t 4] 2 = true := by kernel_rfl

/-- interchange/interchangeref7.isVerdict -/
def sc_interchangeref7_isVerdict : SC :=
  (.seq (.reg [.r 2 (.mv (.c (.d (.bool false))))])
  (.seq (.reg [.r 3 (.mv (.t 0)),
     .c 4 (.f 56) [.t 3, .c (.d (.int .i64 1)), .c (.d (.int .i64 3))],
     .r 2 (.mv (.t 4))])
  .ret))
theorem fit_interchangeref7_isVerdict : fits Tryd.prog 66 Tryd.f66 sc_interchangeref7_isVerdict [.t 2] 1 = true := by kernel_rfl

def sc_interchangeref7_checkFlaws_L1 : SC :=
  (.seq (.seq (.reg [.r 8 (.mv (.t 3)),
     .r 9 (.mv (.t 0)),
     .r 10 (.len (.t 9)),
     .r 11 (.bin .lss (.t 8) (.t 10))])
  (.cond (.t 11)
    .skip
    (.exit 0)))
  (.seq (.block 1 (.seq (.reg [.r 14 (.mv (.t 0)),
       .r 15 (.mv (.t 3)),
       .r 16 (.idx 6 (.t 14) (.t 15)),
       .o 17 (.ldA 6 (.t 16)),
       .w 4 (.boxM (.c (.agg [.d (.int .i64 0), .d (.int .i64 0), .d (.int .i64 0), .d (.int .i64 0), .d (.int .i64 0), .d (.str [])]))),
       .w 0 (.st 6 (.t 4) (.t 17))])
    (.seq (.seq (.reg [.r 18 (.fld 0 (.t 4)),
       .o 19 (.ld1 (.t 18)),
       .c 20 (.f 56) [.t 19, .c (.d (.int .i64 1)), .c (.d (.int .i64 12))],
       .r 21 (.not (.t 20))])
    (.cond (.t 21)
      (.seq (.reg [.r 2 (.mv (.c (.d (.int .i64 4))))])
      .ret)
      .skip))
    (.seq (.seq (.reg (.r 22 (.fld 1 (.t 4)) :: .o 23 (.ld1 (.t 22)) :: .c 24 (.f 56) [.t 23, .c (.d (.int .i64 0)), .c (.d (.int .i64 2000))] :: .r 25 (.not (.t 24)) :: .r 26 (.mv (.t 25)) :: gapp [27, 28, 29, 30, 31] 26 false (.r 27 (.fld 2 (.t 4)) :: .r 28 (.fld 0 (.t 27)) :: .r 29 (.ld1 (.t 28)) :: .c 30 (.f 56) [.t 29, .c (.d (.int .i64 0)), .c (.d (.int .i64 51))] :: .r 31 (.not (.t 30)) :: []) (.r 32 (.pick (.t 26) (.c (.d (.bool true))) (.t 31)) :: .r 33 (.mv (.t 32)) :: gapp [34, 35, 36, 37, 38] 33 false (.r 34 (.fld 2 (.t 4)) :: .r 35 (.fld 1 (.t 34)) :: .r 36 (.ld1 (.t 35)) :: .c 37 (.f 56) [.t 36, .c (.d (.int .i64 0)), .c (.d (.int .i64 21))] :: .r 38 (.not (.t 37)) :: []) (.r 39 (.pick (.t 33) (.c (.d (.bool true))) (.t 38)) :: .r 40 (.mv (.t 39)) :: gapp [41, 42, 43, 44, 45] 40 false (.r 41 (.fld 2 (.t 4)) :: .r 42 (.fld 2 (.t 41)) :: .r 43 (.ld1 (.t 42)) :: .c 44 (.f 56) [.t 43, .c (.d (.int .i64 0)), .c (.d (.int .i64 21))] :: .r 45 (.not (.t 44)) :: []) (.r 46 (.pick (.t 40) (.c (.d (.bool true))) (.t 45)) :: [])))))
    (.cond (.t 46)
      (.seq (.reg [.r 2 (.mv (.c (.d (.int .i64 1))))])
      .ret)
      .skip))
    (.seq (.seq (.reg (.r 47 (.fld 5 (.t 4)) :: .o 48 (.ld1 (.t 47)) :: .r 49 (.bin .neq (.t 48) (.c (.d (.str [])))) :: .r 50 (.mv (.t 49)) :: gapp [51, 52, 53, 54] 50 true (.r 51 (.fld 5 (.t 4)) :: .r 52 (.ld1 (.t 51)) :: .c 53 (.f 105) [.t 52] :: .r 54 (.not (.t 53)) :: []) (.r 55 (.pick (.t 50) (.t 54) (.c (.d (.bool false)))) :: .r 56 (.mv (.t 55)) :: gapp [57, 58, 59, 60] 56 true (.r 57 (.fld 5 (.t 4)) :: .r 58 (.ld1 (.t 57)) :: .c 59 (.f 128) [.t 58] :: .r 60 (.not (.t 59)) :: []) (.r 61 (.pick (.t 56) (.t 60) (.c (.d (.bool false)))) :: []))))
    (.cond (.t 61)
      (.seq (.reg [.r 2 (.mv (.c (.d (.int .i64 3))))])
      .ret)
      .skip))
    (.seq (.regD (.r 62 (.mv (.t 3)) :: .r 63 (.bin .gtr (.t 62) (.c (.d (.int .i64 0)))) :: .r 64 (.mv (.t 63)) :: gapp [65, 66, 67, 68, 69, 70, 71, 72, 73] 64 true (.r 65 (.fld 1 (.t 4)) :: .r 66 (.ld1 (.t 65)) :: .r 67 (.mv (.t 0)) :: .r 68 (.mv (.t 3)) :: .r 69 (.bin .sub (.t 68) (.c (.d (.int .i64 1)))) :: .r 70 (.idx 6 (.t 67) (.t 69)) :: .r 71 (.fld 1 (.t 70)) :: .r 72 (.ld1 (.t 71)) :: .r 73 (.bin .lss (.t 66) (.t 72)) :: []) (.r 74 (.pick (.t 64) (.t 73) (.c (.d (.bool false)))) :: [])))
    (.cond (.t 74)
      (.seq (.reg [.r 2 (.mv (.c (.d (.int .i64 8))))])
      .ret)
      .skip)))))))
  (.reg [.r 12 (.mv (.t 3)),
     .r 13 (.bin .add (.t 12) (.c (.d (.int .i64 1)))),
     .r 3 (.mv (.t 13))])))
def sc_interchangeref7_checkFlaws_B1 : SC := .block 0 (.loop sc_interchangeref7_checkFlaws_L1)
/-- interchange/interchangeref7.checkFlaws -/
def sc_interchangeref7_checkFlaws : SC :=
  (.seq (.reg [.r 2 (.mv (.c (.d (.int .i64 0))))])
  (.seq (.seq (.reg [.r 5 (.mv (.t 0)),
     .r 6 (.len (.t 5)),
     .r 7 (.bin .gtr (.t 6) (.c (.d (.int .i64 500))))])
  (.cond (.t 7)
    (.seq (.reg [.r 2 (.mv (.c (.d (.int .i64 2))))])
    .ret)
    .skip))
  (.seq (.seq (.reg [.r 3 (.mv (.c (.d (.int .i64 0))))])
  sc_interchangeref7_checkFlaws_B1)
  (.seq (.reg [.r 2 (.mv (.c (.d (.int .i64 0))))])
  .ret))))
theorem fit_interchangeref7_checkFlaws : fits Tryd.prog 127 Tryd.f127 sc_interchangeref7_checkFlaws [.t 2] 1 = true := by kernel_rfl

def sc_interchangeref7_OfGroup_L1 : SC :=
  (.seq (.seq (.reg [.r 5 (.mv (.t 4)),
     .r 6 (.fld 2 (.t 1)),
     .o 7 (.ld1 (.t 6)),
     .r 8 (.len (.t 7)),
     .r 9 (.bin .lss (.t 5) (.t 8))])
  (.cond (.t 9)
    .skip
    (.exit 0)))
  (.seq (.block 1 (.reg [.r 12 (.mv (.t 3)),
       .r 13 (.fld 2 (.t 1)),
       .o 14 (.ld1 (.t 13)),
       .r 15 (.mv (.t 4)),
       .r 16 (.idx 5 (.t 14) (.t 15)),
       .r 17 (.fld 1 (.t 16)),
       .o 18 (.ld1 (.t 17)),
       .r 19 (.bslice 1 [.t 18]),
       .w 20 (.app 3 1 (.t 12) (.t 19)),
       .r 3 (.mv (.t 20))]))
  (.reg [.r 10 (.mv (.t 4)),
     .r 11 (.bin .add (.t 10) (.c (.d (.int .i64 1)))),
     .r 4 (.mv (.t 11))])))
def sc_interchangeref7_OfGroup_B1 : SC := .block 0 (.loop sc_interchangeref7_OfGroup_L1)
/-- interchange/interchangeref7.OfGroup -/
def sc_interchangeref7_OfGroup : SC :=
  (.seq (.reg [.r 1 (.boxI (.t 0)),
     .r 2 (.mv (.c (.d (.int .i64 0))))])
  (.seq (.reg [.r 3 (.mv (.c (.nils)))])
  (.seq (.seq (.reg [.r 4 (.mv (.c (.d (.int .i64 0))))])
  sc_interchangeref7_OfGroup_B1)
  (.seq (.reg [.r 21 (.mv (.t 3)),
     .c 22 (.f 97) [.t 21],
     .r 2 (.mv (.t 22))])
  .ret))))
theorem fit_interchangeref7_OfGroup : fits Tryd.prog 96 Tryd.f96 sc_interchangeref7_OfGroup [.t 2] 1 = true := by kernel_rfl

def sc_interchangeref7_OfAll_L1 : SC :=
  (.seq (.seq (.reg [.r 5 (.mv (.t 4)),
     .r 6 (.fld 2 (.t 1)),
     .o 7 (.ld1 (.t 6)),
     .r 8 (.len (.t 7)),
     .r 9 (.bin .lss (.t 5) (.t 8))])
  (.cond (.t 9)
    .skip
    (.exit 0)))
  (.seq (.block 1 (.reg [.r 12 (.mv (.t 3)),
       .r 13 (.fld 2 (.t 1)),
       .o 14 (.ld1 (.t 13)),
       .r 15 (.mv (.t 4)),
       .r 16 (.idx 3 (.t 14) (.t 15)),
       .r 17 (.fld 1 (.t 16)),
       .o 18 (.ld1 (.t 17)),
       .r 19 (.bslice 1 [.t 18]),
       .w 20 (.app 3 1 (.t 12) (.t 19)),
       .r 3 (.mv (.t 20))]))
  (.reg [.r 10 (.mv (.t 4)),
     .r 11 (.bin .add (.t 10) (.c (.d (.int .i64 1)))),
     .r 4 (.mv (.t 11))])))
def sc_interchangeref7_OfAll_B1 : SC := .block 0 (.loop sc_interchangeref7_OfAll_L1)
/-- interchange/interchangeref7.OfAll -/
def sc_interchangeref7_OfAll : SC :=
  (.seq (.reg [.r 1 (.boxI (.t 0)),
     .r 2 (.mv (.c (.d (.int .i64 0))))])
  (.seq (.reg [.r 3 (.mv (.c (.nils)))])
  (.seq (.seq (.reg [.r 4 (.mv (.c (.d (.int .i64 0))))])
  sc_interchangeref7_OfAll_B1)
  (.seq (.reg [.r 21 (.mv (.t 3)),
     .c 22 (.f 97) [.t 21],
     .r 2 (.mv (.t 22))])
  .ret))))
theorem fit_interchangeref7_OfAll : fits Tryd.prog 68 Tryd.f68 sc_interchangeref7_OfAll [.t 2] 1 = true := by kernel_rfl

set_option maxRecDepth 100000 in
set_option maxHeartbeats 40000000 in
noncomputable def sims_G4_1_0 : (∀ (x0 : List UInt8), {m : Option (Bool) // ∀ r, m = some r → PureSpec Tryd.prog 61 [.str x0] (.bool r)}) × (∀ (x0 : Int), {m : Option (Bool) // ∀ r, m = some r → PureSpec Tryd.prog 62 [.int .i64 x0] (.bool r)}) × (∀ (x0 : List Tapi_GroupReply) (f1 : FuncId) (c1 : List DV) (p1 : Tapi_GroupReply → Option (Bool)) (h1 : ∀ a0 r, p1 a0 = some r → PureSpec Tryd.prog f1 ([.agg (rTapi_GroupReply a0)] ++ c1) (.bool r)), {m : Option (Bool) // ∀ r, m = some r → PureSpec Tryd.prog 90 [.slice (List.map rTapi_GroupReply x0), .fn f1 c1] (.bool r)}) × (∀ (x0 : List Tapi_MessageReply) (f1 : FuncId) (c1 : List DV) (p1 : Tapi_MessageReply → Option (Bool)) (h1 : ∀ a0 r, p1 a0 = some r → PureSpec Tryd.prog f1 ([.agg (rTapi_MessageReply a0)] ++ c1) (.bool r)), {m : Option (Bool) // ∀ r, m = some r → PureSpec Tryd.prog 120 [.slice (List.map rTapi_MessageReply x0), .fn f1 c1] (.bool r)}) × (∀ (x0 : Int), {m : Option (Bool) // ∀ r, m = some r → PureSpec Tryd.prog 153 [.int .i64 x0] (.bool r)}) × (∀ (x0 : List UInt8), {m : Option (Bool) // ∀ r, m = some r → PureSpec Tryd.prog 123 [.str x0] (.bool r)}) × (∀ (x0 : Int), {m : Option (Int) // ∀ r, m = some r → PureSpec Tryd.prog 124 [.int .i64 x0] (.fn 125 [.ptr (rowI r)])}) × (∀ (x0 : List Int) (f1 : FuncId) (c1 : List DV) (p1 : Int → Option (Bool)) (h1 : ∀ a0 r, p1 a0 = some r → PureSpec Tryd.prog f1 ([.int .i64 a0] ++ c1) (.bool r)), {m : Option (Bool) // ∀ r, m = some r → PureSpec Tryd.prog 126 [.slice (List.map rowI x0), .fn f1 c1] (.bool r)}) × (∀ (x0 : Int), {m : Option (Bool) // ∀ r, m = some r → PureSpec Tryd.prog 66 [.int .i64 x0] (.bool r)}) × (∀ (x0 : List Tapi_Flaw), {m : Option (Int) // ∀ r, m = some r → PureSpec Tryd.prog 127 [.slice (List.map rTapi_Flaw x0)] (.int .i64 r)}) × (∀ (x0 : Tapi_GroupReply), {m : Option (Int) // ∀ r, m = some r → PureSpec Tryd.prog 96 [.agg (rTapi_GroupReply x0)] (.int .i64 r)}) × (∀ (x0 : Tapi_Reply), {m : Option (Int) // ∀ r, m = some r → PureSpec Tryd.prog 68 [.agg (rTapi_Reply x0)] (.int .i64 r)}) := by
  refine ⟨?g0, ?g1, ?g2, ?g3, ?g4, ?g5, ?g6, ?g7, ?g8, ?g9, ?g10, ?g11⟩
  case' g0 => (intro x0; apply Subtype.mk; intro r hm; apply pure_walk Tryd.func61 fit_kit_IsRef; unfold sc_kit_IsRef)
  case' g1 => (intro x0; apply Subtype.mk; intro r hm; apply pure_walk Tryd.func62 fit_reply_isVerdict; unfold sc_reply_isVerdict)
  case' g2 => (intro x0 f1 c1 p1 h1; apply Subtype.mk; intro r hm; apply pure_walk Tryd.func90 fit_slices_ContainsFunc_interchange_api_GroupReply_interchange_api_GroupReply; unfold sc_slices_ContainsFunc_interchange_api_GroupReply_interchange_api_GroupReply)
  case' g3 => (intro x0 f1 c1 p1 h1; apply Subtype.mk; intro r hm; apply pure_walk Tryd.func120 fit_slices_ContainsFunc_interchange_api_MessageReply_interchange_api_MessageReply; unfold sc_slices_ContainsFunc_interchange_api_MessageReply_interchange_api_MessageReply)
  case' g4 => (intro x0; apply Subtype.mk; intro r hm; apply pure_walk Tryd.func153 fit_reply_isFlaw; unfold sc_reply_isFlaw)
  case' g5 => (intro x0; apply Subtype.mk; intro r hm; apply pure_walk Tryd.func123 fit_kit_IsName; unfold sc_kit_IsName)
  case' g6 => (intro x0; apply Subtype.mk; intro r hm; apply pure_walk Tryd.func124 fit_reply_together_1; unfold sc_reply_together_1)
  case' g7 => (intro x0 f1 c1 p1 h1; apply Subtype.mk; intro r hm; apply pure_walk Tryd.func126 fit_slices_ContainsFunc_int_int; unfold sc_slices_ContainsFunc_int_int)
  case' g8 => (intro x0; apply Subtype.mk; intro r hm; apply pure_walk Tryd.func66 fit_interchangeref7_isVerdict; unfold sc_interchangeref7_isVerdict)
  case' g9 => (intro x0; apply Subtype.mk; intro r hm; apply pure_walk Tryd.func127 fit_interchangeref7_checkFlaws; unfold sc_interchangeref7_checkFlaws)
  case' g10 => (intro x0; apply Subtype.mk; intro r hm; apply pure_walk Tryd.func96 fit_interchangeref7_OfGroup; unfold sc_interchangeref7_OfGroup)
  case' g11 => (intro x0; apply Subtype.mk; intro r hm; apply pure_walk Tryd.func68 fit_interchangeref7_OfAll; unfold sc_interchangeref7_OfAll)
  all_goals (repeat' (first | with_reducible refine W_seq ?_ | with_reducible refine W_reg ?_ | with_reducible refine W_regD ?_ | with_reducible refine W_block ?_ | with_reducible refine W_skip ?_ | with_reducible refine W_ret ?_ | with_reducible refine W_exit ?_ | with_reducible refine O_nil ?_ | with_reducible refine K_seq ?_ | with_reducible refine K_seqE ?_ | with_reducible refine K_seqR ?_ | with_reducible refine K_block ?_ | with_reducible refine K_blockR ?_ | with_reducible refine K_blockE ?_ | ((with_reducible apply K_blockN); decide) | with_reducible refine O_o2r ?_ | ((with_reducible apply O_idxr hm); (iterate 2 (simp only [push_cast, seval]; rfl)); (intro _; rfl); intro e hm) | ((with_reducible apply O_idxVr hm); (iterate 3 (simp only [push_cast, seval]; rfl)); intro e hm) | ((with_reducible apply O_sidxr hm); (iterate 2 (simp only [push_cast, seval]; rfl)); intro e hm) | ((with_reducible apply O_idxLr hm (row := rowI)); (iterate 2 (simp only [push_cast, seval]; rfl)); (focus ((repeat' (first | rfl | (with_reducible first | apply fT_Tapi_Element | apply fT_Tapi_Marks | apply fT_Tapi_Segment | apply fT_Tapi_GroupReply | apply fT_Tapi_MessageReply | apply fT_Tapi_Flaw | apply fT_Tapi_Spot | apply fT_Tapi_Reply | apply fT_Tapi_BookEvent | apply fT_Tapi_Sending | apply fT_Tapi_Standing | apply f_optN | apply f_optS | apply f_some | apply f_tup | apply f_agg | apply f_ptr | apply f_fn | apply dv_slice | apply sv_d | apply f_cons | apply fold_nil | apply fold_cons | apply fold_app | apply f_rowI | apply f_rowY | apply f_rowS | apply f_rowB | apply f_rowL) | (with_reducible apply f_byte; decide))); done)); (simp only [push_cast, seval]; rfl); (intro _; rfl); intro e hm) | ((with_reducible apply O_r); (simp only [push_cast, seval]; rfl); (first | exact trivial | omega)) | ((with_reducible apply O_ldV1r hm); (iterate 2 (simp only [push_cast, seval]; rfl)); (intro _; rfl); intro e hm) | ((with_reducible apply O_strr hm); (iterate 2 (simp only [push_cast, seval]; rfl)); intro hm) | ((with_reducible apply O_and hm); (simp only [push_cast, seval]; rfl); rfl; intro v hm; rotate_left; intro v g hm) | ((with_reducible apply O_or hm); (simp only [push_cast, seval]; rfl); rfl; intro v hm; rotate_left; intro v g hm) | ((with_reducible apply W_condT); (focus (simp only [push_cast, seval]; done))) | ((with_reducible apply W_condF); (focus (simp only [push_cast, seval]; done))) | ((with_reducible apply O_cS hm); (simp only [push_cast, seval]; rfl); (focus (first | exact spec_strings_Trim _ _ | exact spec_kit_Outside _ _ _ | exact spec_slices_IndexFunc_interchange_api_GroupReply_interchange_api_GroupReply _ _ _ _ h1 | exact h1 _ | exact spec_slices_IndexFunc_interchange_api_MessageReply_interchange_api_MessageReply _ _ _ _ h1 | exact spec_reply_together_1_1 _ _ | exact spec_slices_IndexFunc_int_int _ _ _ _ h1 | exact spec_interchangeref7_within _ _ _ | exact spec_interchangeref2_IsTag _ | exact spec_interchangeref2_IsName _ | exact spec_interchangeref7_together _)); intro x hm) | ((with_reducible apply O_cF hm); (simp only [push_cast, seval]; rfl); (first | apply spec_strings_Trim _ _ | apply spec_kit_Outside _ _ _ | apply spec_slices_IndexFunc_interchange_api_GroupReply_interchange_api_GroupReply _ _ _ _ h1 | apply h1 _ | apply spec_slices_IndexFunc_interchange_api_MessageReply_interchange_api_MessageReply _ _ _ _ h1 | apply spec_reply_together_1_1 _ _ | apply spec_slices_IndexFunc_int_int _ _ _ _ h1 | apply spec_interchangeref7_within _ _ _ | apply spec_interchangeref2_IsTag _ | apply spec_interchangeref2_IsName _ | apply spec_interchangeref7_together _); (any_goals ((repeat' (first | rfl | (with_reducible first | apply fT_Tapi_Element | apply fT_Tapi_Marks | apply fT_Tapi_Segment | apply fT_Tapi_GroupReply | apply fT_Tapi_MessageReply | apply fT_Tapi_Flaw | apply fT_Tapi_Spot | apply fT_Tapi_Reply | apply fT_Tapi_BookEvent | apply fT_Tapi_Sending | apply fT_Tapi_Standing | apply f_optN | apply f_optS | apply f_some | apply f_tup | apply f_agg | apply f_ptr | apply f_fn | apply dv_slice | apply sv_d | apply f_cons | apply fold_nil | apply fold_cons | apply fold_app | apply f_rowI | apply f_rowY | apply f_rowS | apply f_rowB | apply f_rowL) | (with_reducible apply f_byte; decide))); done)); intro x hm) | ((with_reducible apply O_clS hm); (simp only [push_cast, seval]; rfl); (focus (first | exact spec_strings_Trim _ _ | exact spec_kit_Outside _ _ _ | exact spec_slices_IndexFunc_interchange_api_GroupReply_interchange_api_GroupReply _ _ _ _ h1 | exact h1 _ | exact spec_slices_IndexFunc_interchange_api_MessageReply_interchange_api_MessageReply _ _ _ _ h1 | exact spec_reply_together_1_1 _ _ | exact spec_slices_IndexFunc_int_int _ _ _ _ h1 | exact spec_interchangeref7_within _ _ _ | exact spec_interchangeref2_IsTag _ | exact spec_interchangeref2_IsName _ | exact spec_interchangeref7_together _)); (intro _; rfl); intro x hm) | ((with_reducible apply O_cvS hm); (iterate 2 (simp only [push_cast, seval]; rfl)); (focus (first | exact spec_strings_Trim _ _ | exact spec_kit_Outside _ _ _ | exact spec_slices_IndexFunc_interchange_api_GroupReply_interchange_api_GroupReply _ _ _ _ h1 | exact h1 _ | exact spec_slices_IndexFunc_interchange_api_MessageReply_interchange_api_MessageReply _ _ _ _ h1 | exact spec_reply_together_1_1 _ _ | exact spec_slices_IndexFunc_int_int _ _ _ _ h1 | exact spec_interchangeref7_within _ _ _ | exact spec_interchangeref2_IsTag _ | exact spec_interchangeref2_IsName _ | exact spec_interchangeref7_together _)); intro x hm) | ((with_reducible apply O_w); (simp only [push_cast, seval]; rfl); (first | exact trivial | omega)) | ((with_reducible apply O_appL hm (row := rowI)); (iterate 5 (simp only [push_cast, seval]; rfl)); (focus ((repeat' (first | rfl | (with_reducible first | apply fT_Tapi_Element | apply fT_Tapi_Marks | apply fT_Tapi_Segment | apply fT_Tapi_GroupReply | apply fT_Tapi_MessageReply | apply fT_Tapi_Flaw | apply fT_Tapi_Spot | apply fT_Tapi_Reply | apply fT_Tapi_BookEvent | apply fT_Tapi_Sending | apply fT_Tapi_Standing | apply f_optN | apply f_optS | apply f_some | apply f_tup | apply f_agg | apply f_ptr | apply f_fn | apply dv_slice | apply sv_d | apply f_cons | apply fold_nil | apply fold_cons | apply fold_app | apply f_rowI | apply f_rowY | apply f_rowS | apply f_rowB | apply f_rowL) | (with_reducible apply f_byte; decide))); done)); (focus ((repeat' (first | rfl | (with_reducible first | apply fT_Tapi_Element | apply fT_Tapi_Marks | apply fT_Tapi_Segment | apply fT_Tapi_GroupReply | apply fT_Tapi_MessageReply | apply fT_Tapi_Flaw | apply fT_Tapi_Spot | apply fT_Tapi_Reply | apply fT_Tapi_BookEvent | apply fT_Tapi_Sending | apply fT_Tapi_Standing | apply f_optN | apply f_optS | apply f_some | apply f_tup | apply f_agg | apply f_ptr | apply f_fn | apply dv_slice | apply sv_d | apply f_cons | apply fold_nil | apply fold_cons | apply fold_app | apply f_rowI | apply f_rowY | apply f_rowS | apply f_rowB | apply f_rowL) | (with_reducible apply f_byte; decide))); done)); rfl; decide; (intro _; rfl); intro hm) | ((with_reducible apply O_appV hm); (iterate 4 (simp only [push_cast, seval]; rfl)); (focus ((repeat' (first | rfl | (with_reducible first | apply fT_Tapi_Element | apply fT_Tapi_Marks | apply fT_Tapi_Segment | apply fT_Tapi_GroupReply | apply fT_Tapi_MessageReply | apply fT_Tapi_Flaw | apply fT_Tapi_Spot | apply fT_Tapi_Reply | apply fT_Tapi_BookEvent | apply fT_Tapi_Sending | apply fT_Tapi_Standing | apply f_optN | apply f_optS | apply f_some | apply f_tup | apply f_agg | apply f_ptr | apply f_fn | apply dv_slice | apply sv_d | apply f_cons | apply fold_nil | apply fold_cons | apply fold_app | apply f_rowI | apply f_rowY | apply f_rowS | apply f_rowB | apply f_rowL) | (with_reducible apply f_byte; decide))); done)); decide; (intro _; rfl); intro hm) | ((with_reducible apply O_appN hm); (focus (simp only [push_cast, seval]; done)); (iterate 2 (simp only [push_cast, seval]; rfl)); (focus ((repeat' (first | rfl | (with_reducible first | apply fT_Tapi_Element | apply fT_Tapi_Marks | apply fT_Tapi_Segment | apply fT_Tapi_GroupReply | apply fT_Tapi_MessageReply | apply fT_Tapi_Flaw | apply fT_Tapi_Spot | apply fT_Tapi_Reply | apply fT_Tapi_BookEvent | apply fT_Tapi_Sending | apply fT_Tapi_Standing | apply f_optN | apply f_optS | apply f_some | apply f_tup | apply f_agg | apply f_ptr | apply f_fn | apply dv_slice | apply sv_d | apply f_cons | apply fold_nil | apply fold_cons | apply fold_app | apply f_rowI | apply f_rowY | apply f_rowS | apply f_rowB | apply f_rowL) | (with_reducible apply f_byte; decide))); done)); decide; (intro _; rfl); intro hm) | ((with_reducible apply O_stV hm); (iterate 3 (simp only [push_cast, seval]; rfl)); rfl; (intro _; rfl); rfl; (focus (intro a; simp only [push_cast, seval]; rfl)); (focus (intro a; (repeat' (first | rfl | with_reducible apply eT_Tapi_Element | with_reducible apply eT_Tapi_Marks | with_reducible apply eT_Tapi_Segment | with_reducible apply eT_Tapi_GroupReply | with_reducible apply eT_Tapi_MessageReply | with_reducible apply eT_Tapi_Flaw | with_reducible apply eT_Tapi_Spot | with_reducible apply eT_Tapi_Reply | with_reducible apply eT_Tapi_BookEvent | with_reducible apply eT_Tapi_Sending | with_reducible apply eT_Tapi_Standing)); done)); intro e hm) | ((with_reducible apply S_condB hm); (simp only [push_cast, seval]; rfl); intro hm; rotate_left; intro hm) | ((with_reducible apply K_endS hm); (focus (simp only [resOf, resL, RV.get, push_cast, seval]; rfl)); (focus ((repeat' (first | rfl | (with_reducible first | apply fT_Tapi_Element | apply fT_Tapi_Marks | apply fT_Tapi_Segment | apply fT_Tapi_GroupReply | apply fT_Tapi_MessageReply | apply fT_Tapi_Flaw | apply fT_Tapi_Spot | apply fT_Tapi_Reply | apply fT_Tapi_BookEvent | apply fT_Tapi_Sending | apply fT_Tapi_Standing | apply f_optN | apply f_optS | apply f_some | apply f_tup | apply f_agg | apply f_ptr | apply f_fn | apply dv_slice | apply sv_d | apply f_cons | apply fold_nil | apply fold_cons | apply fold_app | apply f_rowI | apply f_rowY | apply f_rowS | apply f_rowB | apply f_rowL) | (with_reducible apply f_byte; decide))); done))) | ((with_reducible apply K_bool hm); (simp only [push_cast, seval]; rfl)) | ((with_reducible apply K_leave hm); intro r hm) | ((with_reducible apply K_leaveR hm); intro r hm) | ((apply S_loopY (b := 0) (X := sc_interchangeref7_checkFlaws_B1) (x := sc_interchangeref7_checkFlaws_L1) rfl (fun (c : SV) (s : Int) => st [(0, c), (3, .d (.int .i64 s))] []) (c := _) (s0 := _) hm); (focus (first | (dsimp only; done) | (dsimp only; rfl) | rfl)); (with_reducible refine Then.mk ?_ ?_)) | ((apply S_loopY (b := 0) (X := sc_interchangeref7_OfGroup_B1) (x := sc_interchangeref7_OfGroup_L1) rfl (fun (c : SV) (s : (List Int) × Int) => st [(1, c), (3, .vec 3), (4, .d (.int .i64 s.2))] [(3, .vec 3 1 (vrow rowI s.1))]) (c := _) (s0 := (_, _)) hm); (focus (first | (dsimp only; done) | (dsimp only; rfl) | rfl)); (with_reducible refine Then.mk ?_ ?_); apply Imp.trans; (focus (apply imp_vecnil (slot := 3) (id := 3) (e := 3) (sz := 1); (focus (simp only [push_cast, seval]; done))))) | ((apply S_loopY (b := 0) (X := sc_interchangeref7_OfAll_B1) (x := sc_interchangeref7_OfAll_L1) rfl (fun (c : SV) (s : (List Int) × Int) => st [(1, c), (3, .vec 3), (4, .d (.int .i64 s.2))] [(3, .vec 3 1 (vrow rowI s.1))]) (c := _) (s0 := (_, _)) hm); (focus (first | (dsimp only; done) | (dsimp only; rfl) | rfl)); (with_reducible refine Then.mk ?_ ?_); apply Imp.trans; (focus (apply imp_vecnil (slot := 3) (id := 3) (e := 3) (sz := 1); (focus (simp only [push_cast, seval]; done))))) | ((apply K_next (s' := (_, _)) hm); (focus (first | (dsimp only; done) | (dsimp only; rfl) | rfl))) | ((apply K_brk (s' := (_, _)) hm); (focus (first | (dsimp only; done) | (dsimp only; rfl) | rfl))) | ((apply K_next (s' := _) hm); (focus (first | (dsimp only; done) | (dsimp only; rfl) | rfl))) | ((apply K_brk (s' := _) hm); (focus (first | (dsimp only; done) | (dsimp only; rfl) | rfl))) | (((with_reducible apply K_brkN hm); (focus decide); intro r hm)) | (((with_reducible apply K_brkR hm); intro r hm)) | (((with_reducible apply LoopB.of); (focus (first | (dsimp only; done) | (dsimp only; rfl) | rfl)); (focus ((intro _; repeat' (first | with_reducible exact impC_end | with_reducible exact impC_endF | with_reducible refine impC_seq ?_ | with_reducible refine impC_block ?_ | ((with_reducible refine impC_rnd ?_); intro _) | ((with_reducible refine impC_brk ?_); intro _))))); (intro s o hm; first | unfold sc_interchangeref7_checkFlaws_L1 | unfold sc_interchangeref7_OfGroup_L1 | unfold sc_interchangeref7_OfAll_L1); rotate_left; intro s hm)) | (((apply imp_stT; (repeat' (first | with_reducible exact keepT_nil | with_reducible exact keepC_nil | with_reducible apply keepT_cons | with_reducible apply keepC_cons | ((with_reducible apply svle_eq); (focus (first | (simp only [push_cast, seval]; rfl) | rfl)); (focus ((repeat' (first | rfl | (with_reducible first | apply fT_Tapi_Element | apply fT_Tapi_Marks | apply fT_Tapi_Segment | apply fT_Tapi_GroupReply | apply fT_Tapi_MessageReply | apply fT_Tapi_Flaw | apply fT_Tapi_Spot | apply fT_Tapi_Reply | apply fT_Tapi_BookEvent | apply fT_Tapi_Sending | apply fT_Tapi_Standing | apply f_optN | apply f_optS | apply f_some | apply f_tup | apply f_agg | apply f_ptr | apply f_fn | apply dv_slice | apply sv_d | apply f_cons | apply fold_nil | apply fold_cons | apply fold_app | apply f_rowI | apply f_rowY | apply f_rowS | apply f_rowB | apply f_rowL) | (with_reducible apply f_byte; decide))); done))) | ((with_reducible apply svle_td); (focus (first | (simp only [push_cast, seval]; rfl) | rfl)); (focus (first | (simp only [push_cast, seval]; rfl) | rfl)); (focus ((repeat' (first | rfl | (with_reducible first | apply fT_Tapi_Element | apply fT_Tapi_Marks | apply fT_Tapi_Segment | apply fT_Tapi_GroupReply | apply fT_Tapi_MessageReply | apply fT_Tapi_Flaw | apply fT_Tapi_Spot | apply fT_Tapi_Reply | apply fT_Tapi_BookEvent | apply fT_Tapi_Sending | apply fT_Tapi_Standing | apply f_optN | apply f_optS | apply f_some | apply f_tup | apply f_agg | apply f_ptr | apply f_fn | apply dv_slice | apply sv_d | apply f_cons | apply fold_nil | apply fold_cons | apply fold_app | apply f_rowI | apply f_rowY | apply f_rowS | apply f_rowB | apply f_rowL) | (with_reducible apply f_byte; decide))); done))) | ((with_reducible apply chle_eq); (focus (first | (simp only [push_cast, seval]; rfl) | rfl)); (first | with_reducible exact chle_rfl rfl | with_reducible exact chle_map0 | with_reducible apply chle_vec | with_reducible apply chle_box)) | (with_reducible first | apply cT_Tapi_Element | apply cT_Tapi_Marks | apply cT_Tapi_Segment | apply cT_Tapi_GroupReply | apply cT_Tapi_MessageReply | apply cT_Tapi_Flaw | apply cT_Tapi_Spot | apply cT_Tapi_Reply | apply cT_Tapi_BookEvent | apply cT_Tapi_Sending | apply cT_Tapi_Standing | apply r_shS | apply r_shI | apply r_rflO | apply r_oneO | apply r_appO | apply r_nilO | apply c_ownN | apply c_ownL | apply vc_rfl | apply vc_nil | apply vc_cons | apply r_rfl | apply r_rows | apply r_nil | apply r_app | apply r_cons | apply c_rowI | apply c_rowY | apply c_rowS | apply c_rowB | apply c_rowL))); done)))))
noncomputable def m_kit_IsRef (x0 : List UInt8) : Option (Bool) := (sims_G4_1_0.1 x0).1
theorem spec_kit_IsRef (x0 : List UInt8) : ∀ r, m_kit_IsRef x0 = some r → PureSpec Tryd.prog 61 [.str x0] (.bool r) := (sims_G4_1_0.1 x0).2
noncomputable def m_reply_isVerdict (x0 : Int) : Option (Bool) := (sims_G4_1_0.2.1 x0).1
theorem spec_reply_isVerdict (x0 : Int) : ∀ r, m_reply_isVerdict x0 = some r → PureSpec Tryd.prog 62 [.int .i64 x0] (.bool r) := (sims_G4_1_0.2.1 x0).2
noncomputable def m_slices_ContainsFunc_interchange_api_GroupReply_interchange_api_GroupReply (x0 : List Tapi_GroupReply) (f1 : FuncId) (c1 : List DV) (p1 : Tapi_GroupReply → Option (Bool)) (h1 : ∀ a0 r, p1 a0 = some r → PureSpec Tryd.prog f1 ([.agg (rTapi_GroupReply a0)] ++ c1) (.bool r)) : Option (Bool) := (sims_G4_1_0.2.2.1 x0 f1 c1 p1 h1).1
theorem spec_slices_ContainsFunc_interchange_api_GroupReply_interchange_api_GroupReply (x0 : List Tapi_GroupReply) (f1 : FuncId) (c1 : List DV) (p1 : Tapi_GroupReply → Option (Bool)) (h1 : ∀ a0 r, p1 a0 = some r → PureSpec Tryd.prog f1 ([.agg (rTapi_GroupReply a0)] ++ c1) (.bool r)) : ∀ r, m_slices_ContainsFunc_interchange_api_GroupReply_interchange_api_GroupReply x0 f1 c1 p1 h1 = some r → PureSpec Tryd.prog 90 [.slice (List.map rTapi_GroupReply x0), .fn f1 c1] (.bool r) := (sims_G4_1_0.2.2.1 x0 f1 c1 p1 h1).2
noncomputable def m_slices_ContainsFunc_interchange_api_MessageReply_interchange_api_MessageReply (x0 : List Tapi_MessageReply) (f1 : FuncId) (c1 : List DV) (p1 : Tapi_MessageReply → Option (Bool)) (h1 : ∀ a0 r, p1 a0 = some r → PureSpec Tryd.prog f1 ([.agg (rTapi_MessageReply a0)] ++ c1) (.bool r)) : Option (Bool) := (sims_G4_1_0.2.2.2.1 x0 f1 c1 p1 h1).1
theorem spec_slices_ContainsFunc_interchange_api_MessageReply_interchange_api_MessageReply (x0 : List Tapi_MessageReply) (f1 : FuncId) (c1 : List DV) (p1 : Tapi_MessageReply → Option (Bool)) (h1 : ∀ a0 r, p1 a0 = some r → PureSpec Tryd.prog f1 ([.agg (rTapi_MessageReply a0)] ++ c1) (.bool r)) : ∀ r, m_slices_ContainsFunc_interchange_api_MessageReply_interchange_api_MessageReply x0 f1 c1 p1 h1 = some r → PureSpec Tryd.prog 120 [.slice (List.map rTapi_MessageReply x0), .fn f1 c1] (.bool r) := (sims_G4_1_0.2.2.2.1 x0 f1 c1 p1 h1).2
noncomputable def m_reply_isFlaw (x0 : Int) : Option (Bool) := (sims_G4_1_0.2.2.2.2.1 x0).1
theorem spec_reply_isFlaw (x0 : Int) : ∀ r, m_reply_isFlaw x0 = some r → PureSpec Tryd.prog 153 [.int .i64 x0] (.bool r) := (sims_G4_1_0.2.2.2.2.1 x0).2
noncomputable def m_kit_IsName (x0 : List UInt8) : Option (Bool) := (sims_G4_1_0.2.2.2.2.2.1 x0).1
theorem spec_kit_IsName (x0 : List UInt8) : ∀ r, m_kit_IsName x0 = some r → PureSpec Tryd.prog 123 [.str x0] (.bool r) := (sims_G4_1_0.2.2.2.2.2.1 x0).2
noncomputable def m_reply_together_1 (x0 : Int) : Option (Int) := (sims_G4_1_0.2.2.2.2.2.2.1 x0).1
theorem spec_reply_together_1 (x0 : Int) : ∀ r, m_reply_together_1 x0 = some r → PureSpec Tryd.prog 124 [.int .i64 x0] (.fn 125 [.ptr (rowI r)]) := (sims_G4_1_0.2.2.2.2.2.2.1 x0).2
noncomputable def m_slices_ContainsFunc_int_int (x0 : List Int) (f1 : FuncId) (c1 : List DV) (p1 : Int → Option (Bool)) (h1 : ∀ a0 r, p1 a0 = some r → PureSpec Tryd.prog f1 ([.int .i64 a0] ++ c1) (.bool r)) : Option (Bool) := (sims_G4_1_0.2.2.2.2.2.2.2.1 x0 f1 c1 p1 h1).1
theorem spec_slices_ContainsFunc_int_int (x0 : List Int) (f1 : FuncId) (c1 : List DV) (p1 : Int → Option (Bool)) (h1 : ∀ a0 r, p1 a0 = some r → PureSpec Tryd.prog f1 ([.int .i64 a0] ++ c1) (.bool r)) : ∀ r, m_slices_ContainsFunc_int_int x0 f1 c1 p1 h1 = some r → PureSpec Tryd.prog 126 [.slice (List.map rowI x0), .fn f1 c1] (.bool r) := (sims_G4_1_0.2.2.2.2.2.2.2.1 x0 f1 c1 p1 h1).2
noncomputable def m_interchangeref7_isVerdict (x0 : Int) : Option (Bool) := (sims_G4_1_0.2.2.2.2.2.2.2.2.1 x0).1
theorem spec_interchangeref7_isVerdict (x0 : Int) : ∀ r, m_interchangeref7_isVerdict x0 = some r → PureSpec Tryd.prog 66 [.int .i64 x0] (.bool r) := (sims_G4_1_0.2.2.2.2.2.2.2.2.1 x0).2
noncomputable def m_interchangeref7_checkFlaws (x0 : List Tapi_Flaw) : Option (Int) := (sims_G4_1_0.2.2.2.2.2.2.2.2.2.1 x0).1
theorem spec_interchangeref7_checkFlaws (x0 : List Tapi_Flaw) : ∀ r, m_interchangeref7_checkFlaws x0 = some r → PureSpec Tryd.prog 127 [.slice (List.map rTapi_Flaw x0)] (.int .i64 r) := (sims_G4_1_0.2.2.2.2.2.2.2.2.2.1 x0).2
noncomputable def m_interchangeref7_OfGroup (x0 : Tapi_GroupReply) : Option (Int) := (sims_G4_1_0.2.2.2.2.2.2.2.2.2.2.1 x0).1
theorem spec_interchangeref7_OfGroup (x0 : Tapi_GroupReply) : ∀ r, m_interchangeref7_OfGroup x0 = some r → PureSpec Tryd.prog 96 [.agg (rTapi_GroupReply x0)] (.int .i64 r) := (sims_G4_1_0.2.2.2.2.2.2.2.2.2.2.1 x0).2
noncomputable def m_interchangeref7_OfAll (x0 : Tapi_Reply) : Option (Int) := (sims_G4_1_0.2.2.2.2.2.2.2.2.2.2.2 x0).1
theorem spec_interchangeref7_OfAll (x0 : Tapi_Reply) : ∀ r, m_interchangeref7_OfAll x0 = some r → PureSpec Tryd.prog 68 [.agg (rTapi_Reply x0)] (.int .i64 r) := (sims_G4_1_0.2.2.2.2.2.2.2.2.2.2.2 x0).2

/-- interchange/kit.IsMoment -/
def sc_kit_IsMoment : SC :=
  (.seq (.reg [.r 2 (.mv (.c (.d (.bool false))))])
  (.seq (.reg [.r 3 (.mv (.t 0)),
     .c 4 (.f 70) [.t 3, .c (.d (.int .i64 0)), .c (.d (.int .i64 1000000000000000))],
     .r 5 (.not (.t 4)),
     .r 2 (.mv (.t 5))])
  .ret))
theorem fit_kit_IsMoment : fits Tryd.prog 52 Tryd.f52 sc_kit_IsMoment [.t 2] 1 = true := by kernel_rfl

def sc_reply_at_L1 : SC :=
  (.seq (.seq (.reg (.r 8 (.mv (.t 5)) :: .r 9 (.mv (.t 0)) :: .r 10 (.len (.t 9)) :: .r 11 (.bin .lss (.t 8) (.t 10)) :: .r 12 (.mv (.t 11)) :: gapp [13, 14, 15, 16, 17, 18, 19] 12 true (.r 13 (.mv (.t 0)) :: .r 14 (.mv (.t 5)) :: .r 15 (.idx 5 (.t 13) (.t 14)) :: .r 16 (.fld 1 (.t 15)) :: .r 17 (.ld1 (.t 16)) :: .r 18 (.mv (.t 1)) :: .r 19 (.bin .leq (.t 17) (.t 18)) :: []) (.r 20 (.pick (.t 12) (.t 19) (.c (.d (.bool false)))) :: [])))
  (.cond (.t 20)
    .skip
    (.exit 0)))
  (.block 1 (.reg [.r 21 (.mv (.t 5)),
       .r 22 (.bin .add (.t 21) (.c (.d (.int .i64 1)))),
       .r 5 (.mv (.t 22))])))
def sc_reply_at_B1 : SC := .block 0 (.loop sc_reply_at_L1)
/-- interchange/reply.at -/
def sc_reply_at : SC :=
  (.seq (.reg [.r 4 (.mv (.c (.nils)))])
  (.seq (.reg [.r 5 (.mv (.c (.d (.int .i64 0))))])
  (.seq sc_reply_at_B1
  (.seq (.reg [.r 24 (.mv (.t 0)),
     .r 25 (.mv (.t 5)),
     .r 26 (.slc 5 (.t 24) none (some (.t 25))),
     .c 27 (.f 54) [.t 26],
     .r 23 (.mv (.t 27)),
     .r 28 (.ext (.t 23) 0),
     .r 29 (.ext (.t 23) 1),
     .r 6 (.mv (.t 28)),
     .r 7 (.mv (.t 29))])
  (.seq (.reg [.r 30 (.mv (.t 6)),
     .r 4 (.mv (.t 30))])
  .ret)))))
theorem fit_reply_at : fits Tryd.prog 69 Tryd.f69 sc_reply_at [.t 4] 2 = true := by kernel_rfl

set_option maxRecDepth 100000 in
set_option maxHeartbeats 40000000 in
noncomputable def sims_G4_1_1 : (∀ (x0 : Int), {m : Option (Bool) // ∀ r, m = some r → PureSpec Tryd.prog 52 [.int .i64 x0] (.bool r)}) × (∀ (x0 : List Tapi_BookEvent) (x1 : Int), {m : Option ((List Tapi_Sending)) // ∀ r, m = some r → PureSpec Tryd.prog 69 [.slice (List.map rTapi_BookEvent x0), .int .i64 x1] (.slice (List.map rTapi_Sending r))}) := by
  refine ⟨?g0, ?g1⟩
  case' g0 => (intro x0; apply Subtype.mk; intro r hm; apply pure_walk Tryd.func52 fit_kit_IsMoment; unfold sc_kit_IsMoment)
  case' g1 => (intro x0 x1; apply Subtype.mk; intro r hm; apply pure_walk Tryd.func69 fit_reply_at; unfold sc_reply_at)
  all_goals (repeat' (first | with_reducible refine W_seq ?_ | with_reducible refine W_reg ?_ | with_reducible refine W_block ?_ | with_reducible refine W_skip ?_ | with_reducible refine W_ret ?_ | with_reducible refine W_exit ?_ | with_reducible refine O_nil ?_ | with_reducible refine K_seq ?_ | with_reducible refine K_seqE ?_ | with_reducible refine K_seqR ?_ | with_reducible refine K_block ?_ | with_reducible refine K_blockR ?_ | with_reducible refine K_blockE ?_ | ((with_reducible apply K_blockN); decide) | ((with_reducible apply O_idxr hm); (iterate 2 (simp only [push_cast, seval]; rfl)); (intro _; rfl); intro e hm) | ((with_reducible apply O_idxVr hm); (iterate 3 (simp only [push_cast, seval]; rfl)); intro e hm) | ((with_reducible apply O_slcr hm); (iterate 3 (simp only [push_cast, seval]; rfl)); (intro _; rfl); intro e hm) | ((with_reducible apply O_r); (simp only [push_cast, seval]; rfl); (first | exact trivial | omega)) | ((with_reducible apply O_ldV1r hm); (iterate 2 (simp only [push_cast, seval]; rfl)); (intro _; rfl); intro e hm) | ((with_reducible apply O_strr hm); (iterate 2 (simp only [push_cast, seval]; rfl)); intro hm) | ((with_reducible apply O_and hm); (simp only [push_cast, seval]; rfl); rfl; intro v hm; rotate_left; intro v g hm) | ((with_reducible apply W_condT); (focus (simp only [push_cast, seval]; done))) | ((with_reducible apply W_condF); (focus (simp only [push_cast, seval]; done))) | ((with_reducible apply O_cS hm); (simp only [push_cast, seval]; rfl); (focus (first | exact spec_kit_Outside _ _ _ | exact spec_reply_book _)); intro x hm) | ((with_reducible apply O_cF hm); (simp only [push_cast, seval]; rfl); (first | apply spec_kit_Outside _ _ _ | apply spec_reply_book _); (any_goals ((repeat' (first | rfl | (with_reducible first | apply fT_Tapi_Element | apply fT_Tapi_Marks | apply fT_Tapi_Segment | apply fT_Tapi_GroupReply | apply fT_Tapi_MessageReply | apply fT_Tapi_Flaw | apply fT_Tapi_Spot | apply fT_Tapi_Reply | apply fT_Tapi_BookEvent | apply fT_Tapi_Sending | apply fT_Tapi_Standing | apply f_optN | apply f_optS | apply f_some | apply f_tup | apply f_agg | apply f_ptr | apply f_fn | apply dv_slice | apply sv_d | apply f_cons | apply fold_nil | apply fold_cons | apply fold_app | apply f_rowI | apply f_rowY | apply f_rowS | apply f_rowB | apply f_rowL) | (with_reducible apply f_byte; decide))); done)); intro x hm) | ((with_reducible apply S_condB hm); (simp only [push_cast, seval]; rfl); intro hm; rotate_left; intro hm) | ((with_reducible apply K_endS hm); (focus (simp only [resOf, resL, RV.get, push_cast, seval]; rfl)); (focus ((repeat' (first | rfl | (with_reducible first | apply fT_Tapi_Element | apply fT_Tapi_Marks | apply fT_Tapi_Segment | apply fT_Tapi_GroupReply | apply fT_Tapi_MessageReply | apply fT_Tapi_Flaw | apply fT_Tapi_Spot | apply fT_Tapi_Reply | apply fT_Tapi_BookEvent | apply fT_Tapi_Sending | apply fT_Tapi_Standing | apply f_optN | apply f_optS | apply f_some | apply f_tup | apply f_agg | apply f_ptr | apply f_fn | apply dv_slice | apply sv_d | apply f_cons | apply fold_nil | apply fold_cons | apply fold_app | apply f_rowI | apply f_rowY | apply f_rowS | apply f_rowB | apply f_rowL) | (with_reducible apply f_byte; decide))); done))) | ((with_reducible apply K_bool hm); (simp only [push_cast, seval]; rfl)) | ((with_reducible apply K_leave hm); intro r hm) | ((with_reducible apply K_leaveR hm); intro r hm) | ((apply S_loopY (b := 0) (X := sc_reply_at_B1) (x := sc_reply_at_L1) rfl (fun (c : SV × SV) (s : Int) => st [(0, c.1), (1, c.2), (5, .d (.int .i64 s))] []) (c := (_, _)) (s0 := _) hm); (focus (first | (dsimp only; done) | (dsimp only; rfl) | rfl)); (with_reducible refine Then.mk ?_ ?_)) | ((apply K_next (s' := _) hm); (focus (first | (dsimp only; done) | (dsimp only; rfl) | rfl))) | ((apply K_brk (s' := _) hm); (focus (first | (dsimp only; done) | (dsimp only; rfl) | rfl))) | (((with_reducible apply K_brkN hm); (focus decide); intro r hm)) | (((with_reducible apply K_brkR hm); intro r hm)) | (((with_reducible apply LoopB.of); (focus (first | (dsimp only; done) | (dsimp only; rfl) | rfl)); (focus ((intro _; repeat' (first | with_reducible exact impC_end | with_reducible exact impC_endF | with_reducible refine impC_seq ?_ | with_reducible refine impC_block ?_ | ((with_reducible refine impC_rnd ?_); intro _) | ((with_reducible refine impC_brk ?_); intro _))))); (intro s o hm; first | unfold sc_reply_at_L1); rotate_left; intro s hm)) | (((apply imp_stT; (repeat' (first | with_reducible exact keepT_nil | with_reducible exact keepC_nil | with_reducible apply keepT_cons | with_reducible apply keepC_cons | ((with_reducible apply svle_eq); (focus (first | (simp only [push_cast, seval]; rfl) | rfl)); (focus ((repeat' (first | rfl | (with_reducible first | apply fT_Tapi_Element | apply fT_Tapi_Marks | apply fT_Tapi_Segment | apply fT_Tapi_GroupReply | apply fT_Tapi_MessageReply | apply fT_Tapi_Flaw | apply fT_Tapi_Spot | apply fT_Tapi_Reply | apply fT_Tapi_BookEvent | apply fT_Tapi_Sending | apply fT_Tapi_Standing | apply f_optN | apply f_optS | apply f_some | apply f_tup | apply f_agg | apply f_ptr | apply f_fn | apply dv_slice | apply sv_d | apply f_cons | apply fold_nil | apply fold_cons | apply fold_app | apply f_rowI | apply f_rowY | apply f_rowS | apply f_rowB | apply f_rowL) | (with_reducible apply f_byte; decide))); done))) | ((with_reducible apply svle_td); (focus (first | (simp only [push_cast, seval]; rfl) | rfl)); (focus (first | (simp only [push_cast, seval]; rfl) | rfl)); (focus ((repeat' (first | rfl | (with_reducible first | apply fT_Tapi_Element | apply fT_Tapi_Marks | apply fT_Tapi_Segment | apply fT_Tapi_GroupReply | apply fT_Tapi_MessageReply | apply fT_Tapi_Flaw | apply fT_Tapi_Spot | apply fT_Tapi_Reply | apply fT_Tapi_BookEvent | apply fT_Tapi_Sending | apply fT_Tapi_Standing | apply f_optN | apply f_optS | apply f_some | apply f_tup | apply f_agg | apply f_ptr | apply f_fn | apply dv_slice | apply sv_d | apply f_cons | apply fold_nil | apply fold_cons | apply fold_app | apply f_rowI | apply f_rowY | apply f_rowS | apply f_rowB | apply f_rowL) | (with_reducible apply f_byte; decide))); done))) | ((with_reducible apply chle_eq); (focus (first | (simp only [push_cast, seval]; rfl) | rfl)); (first | with_reducible exact chle_rfl rfl | with_reducible exact chle_map0 | with_reducible apply chle_vec | with_reducible apply chle_box)) | (with_reducible first | apply cT_Tapi_Element | apply cT_Tapi_Marks | apply cT_Tapi_Segment | apply cT_Tapi_GroupReply | apply cT_Tapi_MessageReply | apply cT_Tapi_Flaw | apply cT_Tapi_Spot | apply cT_Tapi_Reply | apply cT_Tapi_BookEvent | apply cT_Tapi_Sending | apply cT_Tapi_Standing | apply r_shS | apply r_shI | apply r_rflO | apply r_oneO | apply r_appO | apply r_nilO | apply c_ownN | apply c_ownL | apply vc_rfl | apply vc_nil | apply vc_cons | apply r_rfl | apply r_rows | apply r_nil | apply r_app | apply r_cons | apply c_rowI | apply c_rowY | apply c_rowS | apply c_rowB | apply c_rowL))); done)))))
noncomputable def m_kit_IsMoment (x0 : Int) : Option (Bool) := (sims_G4_1_1.1 x0).1
theorem spec_kit_IsMoment (x0 : Int) : ∀ r, m_kit_IsMoment x0 = some r → PureSpec Tryd.prog 52 [.int .i64 x0] (.bool r) := (sims_G4_1_1.1 x0).2
noncomputable def m_reply_at (x0 : List Tapi_BookEvent) (x1 : Int) : Option ((List Tapi_Sending)) := (sims_G4_1_1.2 x0 x1).1
theorem spec_reply_at (x0 : List Tapi_BookEvent) (x1 : Int) : ∀ r, m_reply_at x0 x1 = some r → PureSpec Tryd.prog 69 [.slice (List.map rTapi_BookEvent x0), .int .i64 x1] (.slice (List.map rTapi_Sending r)) := (sims_G4_1_1.2 x0 x1).2

def sc_reply_flawsFault_L1 : SC :=
  (.seq (.reg [.r 11 (.bin .lss (.t 10) (.t 9))])
  (.seq (.cond (.t 11)
    .skip
    (.exit 0))
  (.seq (.block 1 (.seq (.reg [.r 12 (.mv (.t 10)),
       .r 13 (.idx 6 (.t 8) (.t 10)),
       .o 14 (.ldA 6 (.t 13)),
       .w 4 (.boxM (.c (.agg [.d (.int .i64 0), .d (.int .i64 0), .d (.int .i64 0), .d (.int .i64 0), .d (.int .i64 0), .d (.str [])]))),
       .r 3 (.mv (.t 12)),
       .w 0 (.st 6 (.t 4) (.t 14))])
    (.block 2 (.seq (.reg [.r 16 (.fld 0 (.t 4)),
         .o 17 (.ld1 (.t 16)),
         .c 18 (.f 153) [.t 17],
         .r 19 (.not (.t 18)),
         .r 15 (.mv (.t 19))])
      (.cond (.t 15)
        (.seq (.reg [.r 2 (.mv (.c (.d (.int .i64 4))))])
        .ret)
        (.seq (.reg (.r 21 (.fld 1 (.t 4)) :: .o 22 (.ld1 (.t 21)) :: .c 23 (.f 70) [.t 22, .c (.d (.int .i64 0)), .c (.d (.int .i64 2000))] :: .r 24 (.mv (.t 23)) :: gapp [25, 26, 27, 28] 24 false (.r 25 (.fld 2 (.t 4)) :: .r 26 (.fld 0 (.t 25)) :: .r 27 (.ld1 (.t 26)) :: .c 28 (.f 70) [.t 27, .c (.d (.int .i64 0)), .c (.d (.int .i64 51))] :: []) (.r 29 (.pick (.t 24) (.c (.d (.bool true))) (.t 28)) :: .r 30 (.mv (.t 29)) :: gapp [31, 32, 33, 34] 30 false (.r 31 (.fld 2 (.t 4)) :: .r 32 (.fld 1 (.t 31)) :: .r 33 (.ld1 (.t 32)) :: .c 34 (.f 70) [.t 33, .c (.d (.int .i64 0)), .c (.d (.int .i64 21))] :: []) (.r 35 (.pick (.t 30) (.c (.d (.bool true))) (.t 34)) :: .r 36 (.mv (.t 35)) :: gapp [37, 38, 39, 40] 36 false (.r 37 (.fld 2 (.t 4)) :: .r 38 (.fld 2 (.t 37)) :: .r 39 (.ld1 (.t 38)) :: .c 40 (.f 70) [.t 39, .c (.d (.int .i64 0)), .c (.d (.int .i64 21))] :: []) (.r 41 (.pick (.t 36) (.c (.d (.bool true))) (.t 40)) :: .r 20 (.mv (.t 41)) :: [])))))
        (.cond (.t 20)
          (.seq (.reg [.r 2 (.mv (.c (.d (.int .i64 1))))])
          .ret)
          (.seq (.reg (.r 43 (.fld 5 (.t 4)) :: .o 44 (.ld1 (.t 43)) :: .r 45 (.bin .neq (.t 44) (.c (.d (.str [])))) :: .r 46 (.mv (.t 45)) :: gapp [47, 48, 49, 50] 46 true (.r 47 (.fld 5 (.t 4)) :: .r 48 (.ld1 (.t 47)) :: .c 49 (.f 75) [.t 48] :: .r 50 (.not (.t 49)) :: []) (.r 51 (.pick (.t 46) (.t 50) (.c (.d (.bool false)))) :: .r 52 (.mv (.t 51)) :: gapp [53, 54, 55, 56] 52 true (.r 53 (.fld 5 (.t 4)) :: .r 54 (.ld1 (.t 53)) :: .c 55 (.f 123) [.t 54] :: .r 56 (.not (.t 55)) :: []) (.r 57 (.pick (.t 52) (.t 56) (.c (.d (.bool false)))) :: .r 42 (.mv (.t 57)) :: []))))
          (.cond (.t 42)
            (.seq (.reg [.r 2 (.mv (.c (.d (.int .i64 3))))])
            .ret)
            (.seq (.regD (.r 59 (.mv (.t 3)) :: .r 60 (.bin .gtr (.t 59) (.c (.d (.int .i64 0)))) :: .r 61 (.mv (.t 60)) :: gapp [62, 63, 64, 65, 66, 67, 68, 69, 70] 61 true (.r 62 (.fld 1 (.t 4)) :: .r 63 (.ld1 (.t 62)) :: .r 64 (.mv (.t 0)) :: .r 65 (.mv (.t 3)) :: .r 66 (.bin .sub (.t 65) (.c (.d (.int .i64 1)))) :: .r 67 (.idx 6 (.t 64) (.t 66)) :: .r 68 (.fld 1 (.t 67)) :: .r 69 (.ld1 (.t 68)) :: .r 70 (.bin .lss (.t 63) (.t 69)) :: []) (.r 71 (.pick (.t 61) (.t 70) (.c (.d (.bool false)))) :: .r 58 (.mv (.t 71)) :: [])))
            (.cond (.t 58)
              (.seq (.reg [.r 2 (.mv (.c (.d (.int .i64 8))))])
              .ret)
              .skip)))))))))))
  (.reg [.r 72 (.bin .add (.t 10) (.c (.d (.int .i64 1)))),
     .r 10 (.mv (.t 72))]))))
def sc_reply_flawsFault_B1 : SC := .block 0 (.loop sc_reply_flawsFault_L1)
/-- interchange/reply.flawsFault -/
def sc_reply_flawsFault : SC :=
  (.seq (.reg [.r 2 (.mv (.c (.d (.int .i64 0))))])
  (.seq (.seq (.reg [.r 5 (.mv (.t 0)),
     .r 6 (.len (.t 5)),
     .r 7 (.bin .gtr (.t 6) (.c (.d (.int .i64 500))))])
  (.cond (.t 7)
    (.seq (.reg [.r 2 (.mv (.c (.d (.int .i64 2))))])
    .ret)
    .skip))
  (.seq (.seq (.reg [.r 8 (.mv (.t 0)),
     .r 9 (.len (.t 8)),
     .r 10 (.mv (.c (.d (.int .i64 0))))])
  sc_reply_flawsFault_B1)
  (.seq (.reg [.r 2 (.mv (.c (.d (.int .i64 0))))])
  .ret))))
theorem fit_reply_flawsFault : fits Tryd.prog 122 Tryd.f122 sc_reply_flawsFault [.t 2] 1 = true := by kernel_rfl

/-- interchange/reply.together -/
def sc_reply_together : SC :=
  (.seq (.reg [.r 2 (.mv (.c (.d (.int .i64 0))))])
  (.seq (.reg [.r 3 (.mv (.f 124))])
  (.seq (.block 0 (.seq (.reg [.r 5 (.mv (.t 0)),
       .r 6 (.mv (.t 3)),
       .c 7 (.t 6) [.c (.d (.int .i64 1))],
       .c 8 (.f 126) [.t 5, .t 7],
       .r 9 (.not (.t 8)),
       .r 4 (.mv (.t 9))])
    (.cond (.t 4)
      (.seq (.reg [.r 2 (.mv (.c (.d (.int .i64 1))))])
      .ret)
      (.seq (.reg [.r 11 (.mv (.t 0)),
         .r 12 (.mv (.t 3)),
         .c 13 (.t 12) [.c (.d (.int .i64 3))],
         .c 14 (.f 126) [.t 11, .t 13],
         .r 15 (.not (.t 14)),
         .r 10 (.mv (.t 15))])
      (.cond (.t 10)
        (.seq (.reg [.r 2 (.mv (.c (.d (.int .i64 3))))])
        .ret)
        .skip)))))
  (.seq (.reg [.r 2 (.mv (.c (.d (.int .i64 2))))])
  .ret))))
theorem fit_reply_together : fits Tryd.prog 94 Tryd.f94 sc_reply_together [.t 2] 1 = true := by kernel_rfl

def sc_interchangeref7_checkMessage_L1 : SC :=
  (.seq (.seq (.reg [.r 21 (.mv (.t 6)),
     .r 22 (.mv (.t 1)),
     .r 23 (.bin .lss (.t 21) (.t 22))])
  (.cond (.t 23)
    .skip
    (.exit 0)))
  (.seq (.block 1 (.seq (.regD [.r 26 (.mv (.t 0)),
       .r 27 (.mv (.t 6)),
       .r 28 (.idx 5 (.t 26) (.t 27)),
       .r 29 (.fld 0 (.t 28)),
       .r 30 (.ld1 (.t 29)),
       .r 31 (.fld 0 (.t 5)),
       .r 32 (.ld1 (.t 31)),
       .r 33 (.bin .eql (.t 30) (.t 32))])
    (.cond (.t 33)
      (.seq (.reg [.r 4 (.mv (.c (.d (.int .i64 7))))])
      .ret)
      .skip)))
  (.reg [.r 24 (.mv (.t 6)),
     .r 25 (.bin .add (.t 24) (.c (.d (.int .i64 1)))),
     .r 6 (.mv (.t 25))])))
def sc_interchangeref7_checkMessage_B1 : SC := .block 0 (.loop sc_interchangeref7_checkMessage_L1)
def sc_interchangeref7_checkMessage_L2 : SC :=
  (.seq (.seq (.reg [.r 63 (.mv (.t 8)),
     .r 64 (.fld 4 (.t 5)),
     .o 65 (.ld1 (.t 64)),
     .r 66 (.len (.t 65)),
     .r 67 (.bin .lss (.t 63) (.t 66))])
  (.cond (.t 67)
    .skip
    (.exit 2)))
  (.seq (.block 3 (.seq (.seq (.reg [.r 70 (.fld 4 (.t 5)),
       .o 71 (.ld1 (.t 70)),
       .r 72 (.mv (.t 8)),
       .r 73 (.idx 1 (.t 71) (.t 72)),
       .o 74 (.ld1 (.t 73)),
       .c 75 (.f 128) [.t 74],
       .r 76 (.not (.t 75))])
    (.cond (.t 76)
      (.seq (.reg [.r 4 (.mv (.c (.d (.int .i64 5))))])
      .ret)
      .skip))
    (.seq (.regD (.r 77 (.mv (.t 8)) :: .r 78 (.bin .gtr (.t 77) (.c (.d (.int .i64 0)))) :: .r 79 (.mv (.t 78)) :: gapp [80, 81, 82, 83, 84, 85, 86, 87, 88, 89, 90, 91] 79 true (.r 80 (.fld 4 (.t 5)) :: .r 81 (.ld1 (.t 80)) :: .r 82 (.mv (.t 8)) :: .r 83 (.idx 1 (.t 81) (.t 82)) :: .r 84 (.ld1 (.t 83)) :: .r 85 (.fld 4 (.t 5)) :: .r 86 (.ld1 (.t 85)) :: .r 87 (.mv (.t 8)) :: .r 88 (.bin .sub (.t 87) (.c (.d (.int .i64 1)))) :: .r 89 (.idx 1 (.t 86) (.t 88)) :: .r 90 (.ld1 (.t 89)) :: .r 91 (.bin .leq (.t 84) (.t 90)) :: []) (.r 92 (.pick (.t 79) (.t 91) (.c (.d (.bool false)))) :: [])))
    (.cond (.t 92)
      (.seq (.reg [.r 4 (.mv (.c (.d (.int .i64 8))))])
      .ret)
      .skip))))
  (.reg [.r 68 (.mv (.t 8)),
     .r 69 (.bin .add (.t 68) (.c (.d (.int .i64 1)))),
     .r 8 (.mv (.t 69))])))
def sc_interchangeref7_checkMessage_B2 : SC := .block 2 (.loop sc_interchangeref7_checkMessage_L2)
/-- interchange/interchangeref7.checkMessage -/
def sc_interchangeref7_checkMessage : SC :=
  (.seq (.reg [.r 4 (.mv (.c (.d (.int .i64 0))))])
  (.seq (.reg [.r 9 (.mv (.t 0)),
     .r 10 (.mv (.t 1)),
     .r 11 (.idx 5 (.t 9) (.t 10)),
     .o 12 (.ldA 5 (.t 11)),
     .w 5 (.boxM (.c (.agg [.d (.str []), .d (.int .i64 0), .d (.bool false), .nils, .nils]))),
     .w 0 (.st 5 (.t 5) (.t 12))])
  (.seq (.seq (.reg [.r 13 (.fld 0 (.t 5)),
     .o 14 (.ld1 (.t 13)),
     .c 15 (.f 65) [.t 14],
     .r 16 (.not (.t 15))])
  (.cond (.t 16)
    (.seq (.reg [.r 4 (.mv (.c (.d (.int .i64 3))))])
    .ret)
    .skip))
  (.seq (.seq (.reg [.r 17 (.fld 1 (.t 5)),
     .o 18 (.ld1 (.t 17)),
     .c 19 (.f 66) [.t 18],
     .r 20 (.not (.t 19))])
  (.cond (.t 20)
    (.seq (.reg [.r 4 (.mv (.c (.d (.int .i64 4))))])
    .ret)
    .skip))
  (.seq (.seq (.reg [.r 6 (.mv (.c (.d (.int .i64 0))))])
  sc_interchangeref7_checkMessage_B1)
  (.seq (.seq (.reg (.r 34 (.fld 2 (.t 5)) :: .o 35 (.ld1 (.t 34)) :: .r 36 (.mv (.t 35)) :: gapp [37, 38, 39, 40, 41, 42, 43, 44, 45, 46, 47, 48, 49, 50, 51] 36 true (.r 37 (.fld 1 (.t 5)) :: .r 38 (.ld1 (.t 37)) :: .r 39 (.bin .neq (.t 38) (.c (.d (.int .i64 3)))) :: .r 40 (.mv (.t 39)) :: gapp [41, 42, 43, 44] 40 false (.r 41 (.fld 3 (.t 5)) :: .r 42 (.ld1 (.t 41)) :: .r 43 (.len (.t 42)) :: .r 44 (.bin .gtr (.t 43) (.c (.d (.int .i64 0)))) :: []) (.r 45 (.pick (.t 40) (.c (.d (.bool true))) (.t 44)) :: .r 46 (.mv (.t 45)) :: gapp [47, 48, 49, 50] 46 false (.r 47 (.fld 4 (.t 5)) :: .r 48 (.ld1 (.t 47)) :: .r 49 (.len (.t 48)) :: .r 50 (.bin .gtr (.t 49) (.c (.d (.int .i64 0)))) :: []) (.r 51 (.pick (.t 46) (.c (.d (.bool true))) (.t 50)) :: []))) (.r 52 (.pick (.t 36) (.t 51) (.c (.d (.bool false)))) :: [])))
  (.cond (.t 52)
    (.seq (.reg [.r 4 (.mv (.c (.d (.int .i64 12))))])
    .ret)
    .skip))
  (.seq (.seq (.reg [.r 53 (.fld 3 (.t 5)),
     .o 54 (.ld1 (.t 53)),
     .c 55 (.f 127) [.t 54],
     .r 7 (.mv (.t 55))])
  (.seq (.reg [.r 56 (.mv (.t 7)),
     .r 57 (.bin .neq (.t 56) (.c (.d (.int .i64 0))))])
  (.cond (.t 57)
    (.seq (.reg [.r 58 (.mv (.t 7)),
       .r 4 (.mv (.t 58))])
    .ret)
    .skip)))
  (.seq (.seq (.reg [.r 59 (.fld 4 (.t 5)),
     .o 60 (.ld1 (.t 59)),
     .r 61 (.len (.t 60)),
     .r 62 (.bin .gtr (.t 61) (.c (.d (.int .i64 200))))])
  (.cond (.t 62)
    (.seq (.reg [.r 4 (.mv (.c (.d (.int .i64 2))))])
    .ret)
    .skip))
  (.seq (.seq (.reg [.r 8 (.mv (.c (.d (.int .i64 0))))])
  sc_interchangeref7_checkMessage_B2)
  (.seq (.seq (.reg (.r 93 (.fld 1 (.t 5)) :: .o 94 (.ld1 (.t 93)) :: .r 95 (.bin .eql (.t 94) (.c (.d (.int .i64 1)))) :: .r 96 (.mv (.t 95)) :: gapp [97, 98, 99, 100, 101, 102, 103, 104, 105, 106] 96 true (.r 97 (.fld 3 (.t 5)) :: .r 98 (.ld1 (.t 97)) :: .r 99 (.len (.t 98)) :: .r 100 (.bin .gtr (.t 99) (.c (.d (.int .i64 0)))) :: .r 101 (.mv (.t 100)) :: gapp [102, 103, 104, 105] 101 false (.r 102 (.fld 4 (.t 5)) :: .r 103 (.ld1 (.t 102)) :: .r 104 (.len (.t 103)) :: .r 105 (.bin .gtr (.t 104) (.c (.d (.int .i64 0)))) :: []) (.r 106 (.pick (.t 101) (.c (.d (.bool true))) (.t 105)) :: [])) (.r 107 (.pick (.t 96) (.t 106) (.c (.d (.bool false)))) :: [])))
  (.cond (.t 107)
    (.seq (.reg [.r 4 (.mv (.c (.d (.int .i64 12))))])
    .ret)
    .skip))
  (.seq (.reg [.r 4 (.mv (.c (.d (.int .i64 0))))])
  .ret)))))))))))
theorem fit_interchangeref7_checkMessage : fits Tryd.prog 95 Tryd.f95 sc_interchangeref7_checkMessage [.t 4] 2 = true := by kernel_rfl

/-- interchange/reply.eventFault -/
def sc_reply_eventFault : SC :=
  (.seq (.reg [.r 4 (.mv (.c (.d (.int .i64 0))))])
  (.seq (.reg [.r 6 (.mv (.t 0)),
     .r 7 (.mv (.t 1)),
     .r 8 (.idx 5 (.t 6) (.t 7)),
     .o 9 (.ldA 5 (.t 8)),
     .w 5 (.boxM (.c (.agg [.d (.int .i64 0), .d (.int .i64 0), .d (.int .i64 0), .d (.str []), .d (.int .i64 0)]))),
     .w 0 (.st 5 (.t 5) (.t 9))])
  (.seq (.seq (.reg [.r 10 (.fld 0 (.t 5)),
     .o 11 (.ld1 (.t 10)),
     .c 12 (.f 70) [.t 11, .c (.d (.int .i64 1)), .c (.d (.int .i64 2))]])
  (.cond (.t 12)
    (.seq (.reg [.r 4 (.mv (.c (.d (.int .i64 4))))])
    .ret)
    .skip))
  (.seq (.seq (.reg [.r 13 (.fld 1 (.t 5)),
     .o 14 (.ld1 (.t 13)),
     .c 15 (.f 52) [.t 14],
     .r 16 (.not (.t 15))])
  (.cond (.t 16)
    (.seq (.reg [.r 4 (.mv (.c (.d (.int .i64 1))))])
    .ret)
    .skip))
  (.seq (.seq (.reg [.r 17 (.fld 3 (.t 5)),
     .o 18 (.ld1 (.t 17)),
     .c 19 (.f 61) [.t 18],
     .r 20 (.not (.t 19))])
  (.cond (.t 20)
    (.seq (.reg [.r 4 (.mv (.c (.d (.int .i64 3))))])
    .ret)
    .skip))
  (.seq (.block 0 (.seq (.reg (.r 22 (.fld 0 (.t 5)) :: .o 23 (.ld1 (.t 22)) :: .r 24 (.bin .eql (.t 23) (.c (.d (.int .i64 1)))) :: .r 25 (.mv (.t 24)) :: gapp [26, 27, 28] 25 true (.r 26 (.fld 4 (.t 5)) :: .r 27 (.ld1 (.t 26)) :: .r 28 (.bin .neq (.t 27) (.c (.d (.int .i64 0)))) :: []) (.r 29 (.pick (.t 25) (.t 28) (.c (.d (.bool false)))) :: .r 21 (.mv (.t 29)) :: [])))
    (.cond (.t 21)
      (.seq (.reg [.r 4 (.mv (.c (.d (.int .i64 3))))])
      .ret)
      (.seq (.reg (.r 31 (.fld 0 (.t 5)) :: .o 32 (.ld1 (.t 31)) :: .r 33 (.bin .eql (.t 32) (.c (.d (.int .i64 1)))) :: .r 34 (.mv (.t 33)) :: gapp [35, 36, 37, 38, 39, 40, 41, 42] 34 true (.r 35 (.fld 2 (.t 5)) :: .r 36 (.ld1 (.t 35)) :: .r 37 (.fld 1 (.t 5)) :: .r 38 (.ld1 (.t 37)) :: .r 39 (.fld 1 (.t 5)) :: .r 40 (.ld1 (.t 39)) :: .r 41 (.bin .add (.t 40) (.c (.d (.int .i64 10000000)))) :: .c 42 (.f 70) [.t 36, .t 38, .t 41] :: []) (.r 43 (.pick (.t 34) (.t 42) (.c (.d (.bool false)))) :: .r 30 (.mv (.t 43)) :: [])))
      (.cond (.t 30)
        (.seq (.reg [.r 4 (.mv (.c (.d (.int .i64 1))))])
        .ret)
        (.seq (.reg (.r 45 (.fld 0 (.t 5)) :: .o 46 (.ld1 (.t 45)) :: .r 47 (.bin .eql (.t 46) (.c (.d (.int .i64 2)))) :: .r 48 (.mv (.t 47)) :: gapp [49, 50, 51] 48 true (.r 49 (.fld 2 (.t 5)) :: .r 50 (.ld1 (.t 49)) :: .r 51 (.bin .neq (.t 50) (.c (.d (.int .i64 0)))) :: []) (.r 52 (.pick (.t 48) (.t 51) (.c (.d (.bool false)))) :: .r 44 (.mv (.t 52)) :: [])))
        (.cond (.t 44)
          (.seq (.reg [.r 4 (.mv (.c (.d (.int .i64 3))))])
          .ret)
          (.seq (.reg (.r 54 (.fld 0 (.t 5)) :: .o 55 (.ld1 (.t 54)) :: .r 56 (.bin .eql (.t 55) (.c (.d (.int .i64 2)))) :: .r 57 (.mv (.t 56)) :: gapp [58, 59, 60, 61] 57 true (.r 58 (.fld 4 (.t 5)) :: .r 59 (.ld1 (.t 58)) :: .c 60 (.f 62) [.t 59] :: .r 61 (.not (.t 60)) :: []) (.r 62 (.pick (.t 57) (.t 61) (.c (.d (.bool false)))) :: .r 53 (.mv (.t 62)) :: [])))
          (.cond (.t 53)
            (.seq (.reg [.r 4 (.mv (.c (.d (.int .i64 4))))])
            .ret)
            (.seq (.regD (.r 64 (.mv (.t 1)) :: .r 65 (.bin .gtr (.t 64) (.c (.d (.int .i64 0)))) :: .r 66 (.mv (.t 65)) :: gapp [67, 68, 69, 70, 71, 72, 73, 74, 75] 66 true (.r 67 (.fld 1 (.t 5)) :: .r 68 (.ld1 (.t 67)) :: .r 69 (.mv (.t 0)) :: .r 70 (.mv (.t 1)) :: .r 71 (.bin .sub (.t 70) (.c (.d (.int .i64 1)))) :: .r 72 (.idx 5 (.t 69) (.t 71)) :: .r 73 (.fld 1 (.t 72)) :: .r 74 (.ld1 (.t 73)) :: .r 75 (.bin .lss (.t 68) (.t 74)) :: []) (.r 76 (.pick (.t 66) (.t 75) (.c (.d (.bool false)))) :: .r 63 (.mv (.t 76)) :: [])))
            (.cond (.t 63)
              (.seq (.reg [.r 4 (.mv (.c (.d (.int .i64 8))))])
              .ret)
              .skip)))))))))))
  (.seq (.reg [.r 4 (.mv (.c (.d (.int .i64 0))))])
  .ret)))))))
theorem fit_reply_eventFault : fits Tryd.prog 84 Tryd.f84 sc_reply_eventFault [.t 4] 2 = true := by kernel_rfl

/-- interchange/interchangeref7.checkEvent -/
def sc_interchangeref7_checkEvent : SC :=
  (.seq (.reg [.r 1 (.boxI (.t 0)),
     .r 2 (.mv (.c (.d (.int .i64 0))))])
  (.seq (.seq (.reg (.r 3 (.fld 0 (.t 1)) :: .o 4 (.ld1 (.t 3)) :: .r 5 (.bin .neq (.t 4) (.c (.d (.int .i64 1)))) :: .r 6 (.mv (.t 5)) :: gapp [7, 8, 9] 6 true (.r 7 (.fld 0 (.t 1)) :: .r 8 (.ld1 (.t 7)) :: .r 9 (.bin .neq (.t 8) (.c (.d (.int .i64 2)))) :: []) (.r 10 (.pick (.t 6) (.t 9) (.c (.d (.bool false)))) :: [])))
  (.cond (.t 10)
    (.seq (.reg [.r 2 (.mv (.c (.d (.int .i64 4))))])
    .ret)
    .skip))
  (.seq (.seq (.reg [.r 11 (.fld 1 (.t 1)),
     .o 12 (.ld1 (.t 11)),
     .c 13 (.f 56) [.t 12, .c (.d (.int .i64 0)), .c (.d (.int .i64 1000000000000000))],
     .r 14 (.not (.t 13))])
  (.cond (.t 14)
    (.seq (.reg [.r 2 (.mv (.c (.d (.int .i64 1))))])
    .ret)
    .skip))
  (.seq (.seq (.reg [.r 15 (.fld 3 (.t 1)),
     .o 16 (.ld1 (.t 15)),
     .c 17 (.f 65) [.t 16],
     .r 18 (.not (.t 17))])
  (.cond (.t 18)
    (.seq (.reg [.r 2 (.mv (.c (.d (.int .i64 3))))])
    .ret)
    .skip))
  (.seq (.seq (.reg [.r 19 (.fld 0 (.t 1)),
     .o 20 (.ld1 (.t 19)),
     .r 21 (.bin .eql (.t 20) (.c (.d (.int .i64 1))))])
  (.cond (.t 21)
    (.seq (.seq (.reg [.r 22 (.fld 4 (.t 1)),
       .o 23 (.ld1 (.t 22)),
       .r 24 (.bin .neq (.t 23) (.c (.d (.int .i64 0))))])
    (.cond (.t 24)
      (.seq (.reg [.r 2 (.mv (.c (.d (.int .i64 3))))])
      .ret)
      .skip))
    (.seq (.seq (.reg [.r 25 (.fld 2 (.t 1)),
       .o 26 (.ld1 (.t 25)),
       .r 27 (.fld 1 (.t 1)),
       .o 28 (.ld1 (.t 27)),
       .r 29 (.fld 1 (.t 1)),
       .o 30 (.ld1 (.t 29)),
       .r 31 (.bin .add (.t 30) (.c (.d (.int .i64 10000000)))),
       .c 32 (.f 56) [.t 26, .t 28, .t 31],
       .r 33 (.not (.t 32))])
    (.cond (.t 33)
      (.seq (.reg [.r 2 (.mv (.c (.d (.int .i64 1))))])
      .ret)
      .skip))
    (.seq (.reg [.r 2 (.mv (.c (.d (.int .i64 0))))])
    .ret)))
    .skip))
  (.seq (.seq (.reg [.r 34 (.fld 2 (.t 1)),
     .o 35 (.ld1 (.t 34)),
     .r 36 (.bin .neq (.t 35) (.c (.d (.int .i64 0))))])
  (.cond (.t 36)
    (.seq (.reg [.r 2 (.mv (.c (.d (.int .i64 3))))])
    .ret)
    .skip))
  (.seq (.seq (.reg [.r 37 (.fld 4 (.t 1)),
     .o 38 (.ld1 (.t 37)),
     .c 39 (.f 66) [.t 38],
     .r 40 (.not (.t 39))])
  (.cond (.t 40)
    (.seq (.reg [.r 2 (.mv (.c (.d (.int .i64 4))))])
    .ret)
    .skip))
  (.seq (.reg [.r 2 (.mv (.c (.d (.int .i64 0))))])
  .ret))))))))
theorem fit_interchangeref7_checkEvent : fits Tryd.prog 85 Tryd.f85 sc_interchangeref7_checkEvent [.t 2] 1 = true := by kernel_rfl

set_option maxRecDepth 100000 in
set_option maxHeartbeats 40000000 in
noncomputable def sims_G4_2_0 : (∀ (x0 : List Tapi_Flaw), {m : Option (Int) // ∀ r, m = some r → PureSpec Tryd.prog 122 [.slice (List.map rTapi_Flaw x0)] (.int .i64 r)}) × (∀ (x0 : List Int), {m : Option (Int) // ∀ r, m = some r → PureSpec Tryd.prog 94 [.slice (List.map rowI x0)] (.int .i64 r)}) × (∀ (x0 : List Tapi_MessageReply) (x1 : Int), {m : Option (Int) // ∀ r, m = some r → PureSpec Tryd.prog 95 [.slice (List.map rTapi_MessageReply x0), .int .i64 x1] (.int .i64 r)}) × (∀ (x0 : List Tapi_BookEvent) (x1 : Int), {m : Option (Int) // ∀ r, m = some r → PureSpec Tryd.prog 84 [.slice (List.map rTapi_BookEvent x0), .int .i64 x1] (.int .i64 r)}) × (∀ (x0 : Tapi_BookEvent), {m : Option (Int) // ∀ r, m = some r → PureSpec Tryd.prog 85 [.agg (rTapi_BookEvent x0)] (.int .i64 r)}) := by
  refine ⟨?g0, ?g1, ?g2, ?g3, ?g4⟩
  case' g0 => (intro x0; apply Subtype.mk; intro r hm; apply pure_walk Tryd.func122 fit_reply_flawsFault; unfold sc_reply_flawsFault)
  case' g1 => (intro x0; apply Subtype.mk; intro r hm; apply pure_walk Tryd.func94 fit_reply_together; unfold sc_reply_together)
  case' g2 => (intro x0 x1; apply Subtype.mk; intro r hm; apply pure_walk Tryd.func95 fit_interchangeref7_checkMessage; unfold sc_interchangeref7_checkMessage)
  case' g3 => (intro x0 x1; apply Subtype.mk; intro r hm; apply pure_walk Tryd.func84 fit_reply_eventFault; unfold sc_reply_eventFault)
  case' g4 => (intro x0; apply Subtype.mk; intro r hm; apply pure_walk Tryd.func85 fit_interchangeref7_checkEvent; unfold sc_interchangeref7_checkEvent)
  all_goals (repeat' (first | with_reducible refine W_seq ?_ | with_reducible refine W_reg ?_ | with_reducible refine W_regD ?_ | with_reducible refine W_block ?_ | with_reducible refine W_skip ?_ | with_reducible refine W_ret ?_ | with_reducible refine W_exit ?_ | with_reducible refine O_nil ?_ | with_reducible refine K_seq ?_ | with_reducible refine K_seqE ?_ | with_reducible refine K_seqR ?_ | with_reducible refine K_block ?_ | with_reducible refine K_blockR ?_ | with_reducible refine K_blockE ?_ | ((with_reducible apply K_blockN); decide) | with_reducible refine O_o2r ?_ | ((with_reducible apply O_idxr hm); (iterate 2 (simp only [push_cast, seval]; rfl)); (intro _; rfl); intro e hm) | ((with_reducible apply O_idxVr hm); (iterate 3 (simp only [push_cast, seval]; rfl)); intro e hm) | ((with_reducible apply O_r); (simp only [push_cast, seval]; rfl); (first | exact trivial | omega)) | ((with_reducible apply O_ldV1r hm); (iterate 2 (simp only [push_cast, seval]; rfl)); (intro _; rfl); intro e hm) | ((with_reducible apply O_strr hm); (iterate 2 (simp only [push_cast, seval]; rfl)); intro hm) | ((with_reducible apply O_and hm); (simp only [push_cast, seval]; rfl); rfl; intro v hm; rotate_left; intro v g hm) | ((with_reducible apply O_or hm); (simp only [push_cast, seval]; rfl); rfl; intro v hm; rotate_left; intro v g hm) | ((with_reducible apply W_condT); (focus (simp only [push_cast, seval]; done))) | ((with_reducible apply W_condF); (focus (simp only [push_cast, seval]; done))) | ((with_reducible apply O_cS hm); (simp only [push_cast, seval]; rfl); (focus (first | exact spec_reply_isFlaw _ | exact spec_kit_Outside _ _ _ | exact spec_kit_IsTag _ | exact spec_kit_IsName _ | exact spec_reply_together_1 _ | exact spec_slices_ContainsFunc_int_int _ _ _ _ (fun a0 r h => spec_reply_together_1_1 a0 _ r h) | exact spec_slices_ContainsFunc_int_int _ _ _ _ (fun a0 r h => spec_reply_together_1 a0 r h) | exact spec_reply_together_1_1 _ _ | exact spec_interchangeref2_IsReference _ | exact spec_interchangeref7_isVerdict _ | exact spec_interchangeref7_checkFlaws _ | exact spec_interchangeref2_IsName _ | exact spec_kit_IsMoment _ | exact spec_kit_IsRef _ | exact spec_reply_isVerdict _ | exact spec_interchangeref7_within _ _ _)); intro x hm) | ((with_reducible apply O_cF hm); (simp only [push_cast, seval]; rfl); (first | apply spec_reply_isFlaw _ | apply spec_kit_Outside _ _ _ | apply spec_kit_IsTag _ | apply spec_kit_IsName _ | apply spec_reply_together_1 _ | apply spec_slices_ContainsFunc_int_int _ _ _ _ (fun a0 r h => spec_reply_together_1_1 a0 _ r h) | apply spec_slices_ContainsFunc_int_int _ _ _ _ (fun a0 r h => spec_reply_together_1 a0 r h) | apply spec_reply_together_1_1 _ _ | apply spec_interchangeref2_IsReference _ | apply spec_interchangeref7_isVerdict _ | apply spec_interchangeref7_checkFlaws _ | apply spec_interchangeref2_IsName _ | apply spec_kit_IsMoment _ | apply spec_kit_IsRef _ | apply spec_reply_isVerdict _ | apply spec_interchangeref7_within _ _ _); (any_goals ((repeat' (first | rfl | (with_reducible first | apply fT_Tapi_Element | apply fT_Tapi_Marks | apply fT_Tapi_Segment | apply fT_Tapi_GroupReply | apply fT_Tapi_MessageReply | apply fT_Tapi_Flaw | apply fT_Tapi_Spot | apply fT_Tapi_Reply | apply fT_Tapi_BookEvent | apply fT_Tapi_Sending | apply fT_Tapi_Standing | apply f_optN | apply f_optS | apply f_some | apply f_tup | apply f_agg | apply f_ptr | apply f_fn | apply dv_slice | apply sv_d | apply f_cons | apply fold_nil | apply fold_cons | apply fold_app | apply f_rowI | apply f_rowY | apply f_rowS | apply f_rowB | apply f_rowL) | (with_reducible apply f_byte; decide))); done)); intro x hm) | ((with_reducible apply O_cvS hm); (iterate 2 (simp only [push_cast, seval]; rfl)); (focus (first | exact spec_reply_isFlaw _ | exact spec_kit_Outside _ _ _ | exact spec_kit_IsTag _ | exact spec_kit_IsName _ | exact spec_reply_together_1 _ | exact spec_slices_ContainsFunc_int_int _ _ _ _ (fun a0 r h => spec_reply_together_1_1 a0 _ r h) | exact spec_slices_ContainsFunc_int_int _ _ _ _ (fun a0 r h => spec_reply_together_1 a0 r h) | exact spec_reply_together_1_1 _ _ | exact spec_interchangeref2_IsReference _ | exact spec_interchangeref7_isVerdict _ | exact spec_interchangeref7_checkFlaws _ | exact spec_interchangeref2_IsName _ | exact spec_kit_IsMoment _ | exact spec_kit_IsRef _ | exact spec_reply_isVerdict _ | exact spec_interchangeref7_within _ _ _)); intro x hm) | ((with_reducible apply O_w); (simp only [push_cast, seval]; rfl); (first | exact trivial | omega)) | ((with_reducible apply S_condB hm); (simp only [push_cast, seval]; rfl); intro hm; rotate_left; intro hm) | ((with_reducible apply K_endS hm); (focus (simp only [resOf, resL, RV.get, push_cast, seval]; rfl)); (focus ((repeat' (first | rfl | (with_reducible first | apply fT_Tapi_Element | apply fT_Tapi_Marks | apply fT_Tapi_Segment | apply fT_Tapi_GroupReply | apply fT_Tapi_MessageReply | apply fT_Tapi_Flaw | apply fT_Tapi_Spot | apply fT_Tapi_Reply | apply fT_Tapi_BookEvent | apply fT_Tapi_Sending | apply fT_Tapi_Standing | apply f_optN | apply f_optS | apply f_some | apply f_tup | apply f_agg | apply f_ptr | apply f_fn | apply dv_slice | apply sv_d | apply f_cons | apply fold_nil | apply fold_cons | apply fold_app | apply f_rowI | apply f_rowY | apply f_rowS | apply f_rowB | apply f_rowL) | (with_reducible apply f_byte; decide))); done))) | ((with_reducible apply K_bool hm); (simp only [push_cast, seval]; rfl)) | ((with_reducible apply K_leave hm); intro r hm) | ((with_reducible apply K_leaveR hm); intro r hm) | ((apply S_loopY (b := 0) (X := sc_reply_flawsFault_B1) (x := sc_reply_flawsFault_L1) rfl (fun (c : SV × SV × SV) (s : Int) => st [(0, c.1), (8, c.2.1), (9, c.2.2), (10, .d (.int .i64 s))] []) (c := (_, _, _)) (s0 := _) hm); (focus (first | (dsimp only; done) | (dsimp only; rfl) | rfl)); (with_reducible refine Then.mk ?_ ?_)) | ((apply S_loopY (b := 0) (X := sc_interchangeref7_checkMessage_B1) (x := sc_interchangeref7_checkMessage_L1) rfl (fun (c : SV × SV × Ch) (s : Int) => st [(0, c.1), (1, c.2.1), (5, .ref 5 0), (6, .d (.int .i64 s))] [(5, c.2.2)]) (c := (_, _, _)) (s0 := _) hm); (focus (first | (dsimp only; done) | (dsimp only; rfl) | rfl)); (with_reducible refine Then.mk ?_ ?_)) | ((apply S_loopY (b := 2) (X := sc_interchangeref7_checkMessage_B2) (x := sc_interchangeref7_checkMessage_L2) rfl (fun (c : Ch) (s : Int) => st [(5, .ref 5 0), (8, .d (.int .i64 s))] [(5, c)]) (c := _) (s0 := _) hm); (focus (first | (dsimp only; done) | (dsimp only; rfl) | rfl)); (with_reducible refine Then.mk ?_ ?_)) | ((apply K_next (s' := _) hm); (focus (first | (dsimp only; done) | (dsimp only; rfl) | rfl))) | ((apply K_brk (s' := _) hm); (focus (first | (dsimp only; done) | (dsimp only; rfl) | rfl))) | (((with_reducible apply K_brkN hm); (focus decide); intro r hm)) | (((with_reducible apply K_brkR hm); intro r hm)) | (((with_reducible apply LoopB.of); (focus (first | (dsimp only; done) | (dsimp only; rfl) | rfl)); (focus ((intro _; repeat' (first | with_reducible exact impC_end | with_reducible exact impC_endF | with_reducible refine impC_seq ?_ | with_reducible refine impC_block ?_ | ((with_reducible refine impC_rnd ?_); intro _) | ((with_reducible refine impC_brk ?_); intro _))))); (intro s o hm; first | unfold sc_reply_flawsFault_L1 | unfold sc_interchangeref7_checkMessage_L1 | unfold sc_interchangeref7_checkMessage_L2); rotate_left; intro s hm)) | (((apply imp_stT; (repeat' (first | with_reducible exact keepT_nil | with_reducible exact keepC_nil | with_reducible apply keepT_cons | with_reducible apply keepC_cons | ((with_reducible apply svle_eq); (focus (first | (simp only [push_cast, seval]; rfl) | rfl)); (focus ((repeat' (first | rfl | (with_reducible first | apply fT_Tapi_Element | apply fT_Tapi_Marks | apply fT_Tapi_Segment | apply fT_Tapi_GroupReply | apply fT_Tapi_MessageReply | apply fT_Tapi_Flaw | apply fT_Tapi_Spot | apply fT_Tapi_Reply | apply fT_Tapi_BookEvent | apply fT_Tapi_Sending | apply fT_Tapi_Standing | apply f_optN | apply f_optS | apply f_some | apply f_tup | apply f_agg | apply f_ptr | apply f_fn | apply dv_slice | apply sv_d | apply f_cons | apply fold_nil | apply fold_cons | apply fold_app | apply f_rowI | apply f_rowY | apply f_rowS | apply f_rowB | apply f_rowL) | (with_reducible apply f_byte; decide))); done))) | ((with_reducible apply svle_td); (focus (first | (simp only [push_cast, seval]; rfl) | rfl)); (focus (first | (simp only [push_cast, seval]; rfl) | rfl)); (focus ((repeat' (first | rfl | (with_reducible first | apply fT_Tapi_Element | apply fT_Tapi_Marks | apply fT_Tapi_Segment | apply fT_Tapi_GroupReply | apply fT_Tapi_MessageReply | apply fT_Tapi_Flaw | apply fT_Tapi_Spot | apply fT_Tapi_Reply | apply fT_Tapi_BookEvent | apply fT_Tapi_Sending | apply fT_Tapi_Standing | apply f_optN | apply f_optS | apply f_some | apply f_tup | apply f_agg | apply f_ptr | apply f_fn | apply dv_slice | apply sv_d | apply f_cons | apply fold_nil | apply fold_cons | apply fold_app | apply f_rowI | apply f_rowY | apply f_rowS | apply f_rowB | apply f_rowL) | (with_reducible apply f_byte; decide))); done))) | ((with_reducible apply chle_eq); (focus (first | (simp only [push_cast, seval]; rfl) | rfl)); (first | with_reducible exact chle_rfl rfl | with_reducible exact chle_map0 | with_reducible apply chle_vec | with_reducible apply chle_box)) | (with_reducible first | apply cT_Tapi_Element | apply cT_Tapi_Marks | apply cT_Tapi_Segment | apply cT_Tapi_GroupReply | apply cT_Tapi_MessageReply | apply cT_Tapi_Flaw | apply cT_Tapi_Spot | apply cT_Tapi_Reply | apply cT_Tapi_BookEvent | apply cT_Tapi_Sending | apply cT_Tapi_Standing | apply r_shS | apply r_shI | apply r_rflO | apply r_oneO | apply r_appO | apply r_nilO | apply c_ownN | apply c_ownL | apply vc_rfl | apply vc_nil | apply vc_cons | apply r_rfl | apply r_rows | apply r_nil | apply r_app | apply r_cons | apply c_rowI | apply c_rowY | apply c_rowS | apply c_rowB | apply c_rowL))); done)))))
noncomputable def m_reply_flawsFault (x0 : List Tapi_Flaw) : Option (Int) := (sims_G4_2_0.1 x0).1
theorem spec_reply_flawsFault (x0 : List Tapi_Flaw) : ∀ r, m_reply_flawsFault x0 = some r → PureSpec Tryd.prog 122 [.slice (List.map rTapi_Flaw x0)] (.int .i64 r) := (sims_G4_2_0.1 x0).2
noncomputable def m_reply_together (x0 : List Int) : Option (Int) := (sims_G4_2_0.2.1 x0).1
theorem spec_reply_together (x0 : List Int) : ∀ r, m_reply_together x0 = some r → PureSpec Tryd.prog 94 [.slice (List.map rowI x0)] (.int .i64 r) := (sims_G4_2_0.2.1 x0).2
noncomputable def m_interchangeref7_checkMessage (x0 : List Tapi_MessageReply) (x1 : Int) : Option (Int) := (sims_G4_2_0.2.2.1 x0 x1).1
theorem spec_interchangeref7_checkMessage (x0 : List Tapi_MessageReply) (x1 : Int) : ∀ r, m_interchangeref7_checkMessage x0 x1 = some r → PureSpec Tryd.prog 95 [.slice (List.map rTapi_MessageReply x0), .int .i64 x1] (.int .i64 r) := (sims_G4_2_0.2.2.1 x0 x1).2
noncomputable def m_reply_eventFault (x0 : List Tapi_BookEvent) (x1 : Int) : Option (Int) := (sims_G4_2_0.2.2.2.1 x0 x1).1
theorem spec_reply_eventFault (x0 : List Tapi_BookEvent) (x1 : Int) : ∀ r, m_reply_eventFault x0 x1 = some r → PureSpec Tryd.prog 84 [.slice (List.map rTapi_BookEvent x0), .int .i64 x1] (.int .i64 r) := (sims_G4_2_0.2.2.2.1 x0 x1).2
noncomputable def m_interchangeref7_checkEvent (x0 : Tapi_BookEvent) : Option (Int) := (sims_G4_2_0.2.2.2.2 x0).1
theorem spec_interchangeref7_checkEvent (x0 : Tapi_BookEvent) : ∀ r, m_interchangeref7_checkEvent x0 = some r → PureSpec Tryd.prog 85 [.agg (rTapi_BookEvent x0)] (.int .i64 r) := (sims_G4_2_0.2.2.2.2 x0).2

def sc_reply_messageFault_L1 : SC :=
  (.seq (.reg [.r 58 (.bin .lss (.t 57) (.t 56))])
  (.seq (.cond (.t 58)
    .skip
    (.exit 1))
  (.seq (.block 2 (.seq (.reg [.r 59 (.mv (.t 57)),
       .r 60 (.idx 1 (.t 55) (.t 57)),
       .o 61 (.ld1 (.t 60)),
       .r 7 (.mv (.t 59)),
       .r 8 (.mv (.t 61))])
    (.seq (.seq (.reg [.r 62 (.mv (.t 8)),
       .c 63 (.f 123) [.t 62],
       .r 64 (.not (.t 63))])
    (.cond (.t 64)
      (.seq (.reg [.r 4 (.mv (.c (.d (.int .i64 5))))])
      .ret)
      .skip))
    (.seq (.reg (.r 65 (.mv (.t 7)) :: .r 66 (.bin .gtr (.t 65) (.c (.d (.int .i64 0)))) :: .r 67 (.mv (.t 66)) :: gapp [68, 69, 70, 71, 72, 73, 74, 75] 67 true (.r 68 (.mv (.t 8)) :: .r 69 (.fld 4 (.t 2)) :: .r 70 (.ld1 (.t 69)) :: .r 71 (.mv (.t 7)) :: .r 72 (.bin .sub (.t 71) (.c (.d (.int .i64 1)))) :: .r 73 (.idx 1 (.t 70) (.t 72)) :: .r 74 (.ld1 (.t 73)) :: .r 75 (.bin .leq (.t 68) (.t 74)) :: []) (.r 76 (.pick (.t 67) (.t 75) (.c (.d (.bool false)))) :: [])))
    (.cond (.t 76)
      (.seq (.reg [.r 4 (.mv (.c (.d (.int .i64 8))))])
      .ret)
      .skip)))))
  (.reg [.r 77 (.bin .add (.t 57) (.c (.d (.int .i64 1)))),
     .r 57 (.mv (.t 77))]))))
def sc_reply_messageFault_B1 : SC := .block 1 (.loop sc_reply_messageFault_L1)
/-- interchange/reply.messageFault -/
def sc_reply_messageFault : SC :=
  (.seq (.reg [.r 2 (.boxI (.t 0)),
     .r 4 (.mv (.c (.d (.int .i64 0))))])
  (.seq (.reg (.r 9 (.fld 3 (.t 2)) :: .o 10 (.ld1 (.t 9)) :: .r 11 (.len (.t 10)) :: .r 12 (.bin .gtr (.t 11) (.c (.d (.int .i64 0)))) :: .r 13 (.mv (.t 12)) :: gapp [14, 15, 16, 17] 13 false (.r 14 (.fld 4 (.t 2)) :: .r 15 (.ld1 (.t 14)) :: .r 16 (.len (.t 15)) :: .r 17 (.bin .gtr (.t 16) (.c (.d (.int .i64 0)))) :: []) (.r 18 (.pick (.t 13) (.c (.d (.bool true))) (.t 17)) :: .r 5 (.mv (.t 18)) :: [])))
  (.seq (.block 0 (.seq (.reg [.r 20 (.fld 0 (.t 2)),
       .o 21 (.ld1 (.t 20)),
       .c 22 (.f 61) [.t 21],
       .r 23 (.not (.t 22)),
       .r 19 (.mv (.t 23))])
    (.cond (.t 19)
      (.seq (.reg [.r 4 (.mv (.c (.d (.int .i64 3))))])
      .ret)
      (.seq (.reg [.r 25 (.fld 1 (.t 2)),
         .o 26 (.ld1 (.t 25)),
         .c 27 (.f 62) [.t 26],
         .r 28 (.not (.t 27)),
         .r 24 (.mv (.t 28))])
      (.cond (.t 24)
        (.seq (.reg [.r 4 (.mv (.c (.d (.int .i64 4))))])
        .ret)
        (.seq (.reg [.r 30 (.mv (.t 1)),
           .r 31 (.mkfn 121 [.t 2]),
           .c 32 (.f 120) [.t 30, .t 31],
           .r 29 (.mv (.t 32))])
        (.cond (.t 29)
          (.seq (.reg [.r 4 (.mv (.c (.d (.int .i64 7))))])
          .ret)
          (.seq (.reg (.r 34 (.fld 2 (.t 2)) :: .o 35 (.ld1 (.t 34)) :: .r 36 (.mv (.t 35)) :: gapp [37, 38, 39, 40, 41, 42] 36 true (.r 37 (.fld 1 (.t 2)) :: .r 38 (.ld1 (.t 37)) :: .r 39 (.bin .neq (.t 38) (.c (.d (.int .i64 3)))) :: .r 40 (.mv (.t 39)) :: gapp [41] 40 false (.r 41 (.mv (.t 5)) :: []) (.r 42 (.pick (.t 40) (.c (.d (.bool true))) (.t 41)) :: [])) (.r 43 (.pick (.t 36) (.t 42) (.c (.d (.bool false)))) :: .r 33 (.mv (.t 43)) :: [])))
          (.cond (.t 33)
            (.seq (.reg [.r 4 (.mv (.c (.d (.int .i64 12))))])
            .ret)
            .skip)))))))))
  (.seq (.seq (.reg [.r 44 (.fld 3 (.t 2)),
     .o 45 (.ld1 (.t 44)),
     .c 46 (.f 122) [.t 45],
     .r 6 (.mv (.t 46))])
  (.seq (.reg [.r 47 (.mv (.t 6)),
     .r 48 (.bin .neq (.t 47) (.c (.d (.int .i64 0))))])
  (.cond (.t 48)
    (.seq (.reg [.r 49 (.mv (.t 6)),
       .r 4 (.mv (.t 49))])
    .ret)
    .skip)))
  (.seq (.seq (.reg [.r 50 (.fld 4 (.t 2)),
     .o 51 (.ld1 (.t 50)),
     .r 52 (.len (.t 51)),
     .r 53 (.bin .gtr (.t 52) (.c (.d (.int .i64 200))))])
  (.cond (.t 53)
    (.seq (.reg [.r 4 (.mv (.c (.d (.int .i64 2))))])
    .ret)
    .skip))
  (.seq (.seq (.reg [.r 54 (.fld 4 (.t 2)),
     .o 55 (.ld1 (.t 54)),
     .r 56 (.len (.t 55)),
     .r 57 (.mv (.c (.d (.int .i64 0))))])
  sc_reply_messageFault_B1)
  (.seq (.seq (.reg (.r 78 (.fld 1 (.t 2)) :: .o 79 (.ld1 (.t 78)) :: .r 80 (.bin .eql (.t 79) (.c (.d (.int .i64 1)))) :: .r 81 (.mv (.t 80)) :: gapp [82] 81 true (.r 82 (.mv (.t 5)) :: []) (.r 83 (.pick (.t 81) (.t 82) (.c (.d (.bool false)))) :: [])))
  (.cond (.t 83)
    (.seq (.reg [.r 4 (.mv (.c (.d (.int .i64 12))))])
    .ret)
    .skip))
  (.seq (.reg [.r 4 (.mv (.c (.d (.int .i64 0))))])
  .ret))))))))
theorem fit_reply_messageFault : fits Tryd.prog 92 Tryd.f92 sc_reply_messageFault [.t 4] 2 = true := by kernel_rfl

def sc_reply_verdictOfGroup_L1 : SC :=
  (.seq (.reg [.r 10 (.bin .lss (.t 9) (.t 8))])
  (.seq (.cond (.t 10)
    .skip
    (.exit 0))
  (.seq (.block 1 (.seq (.reg [.r 11 (.idx 5 (.t 7) (.t 9)),
       .o 12 (.ldA 5 (.t 11)),
       .w 5 (.boxM (.c (.agg [.d (.str []), .d (.int .i64 0), .d (.bool false), .nils, .nils]))),
       .w 0 (.st 5 (.t 5) (.t 12))])
    (.reg [.r 13 (.mv (.t 3)),
       .r 14 (.fld 1 (.t 5)),
       .o 15 (.ld1 (.t 14)),
       .r 16 (.bslice 1 [.t 15]),
       .w 17 (.app 3 1 (.t 13) (.t 16)),
       .r 3 (.mv (.t 17))])))
  (.reg [.r 18 (.bin .add (.t 9) (.c (.d (.int .i64 1)))),
     .r 9 (.mv (.t 18))]))))
def sc_reply_verdictOfGroup_B1 : SC := .block 0 (.loop sc_reply_verdictOfGroup_L1)
/-- interchange/reply.verdictOfGroup -/
def sc_reply_verdictOfGroup : SC :=
  (.seq (.reg [.r 1 (.boxI (.t 0)),
     .r 2 (.mv (.c (.d (.int .i64 0))))])
  (.seq (.reg [.r 3 (.mv (.c (.nils)))])
  (.seq (.seq (.reg [.r 6 (.fld 2 (.t 1)),
     .o 7 (.ld1 (.t 6)),
     .r 8 (.len (.t 7)),
     .r 9 (.mv (.c (.d (.int .i64 0))))])
  sc_reply_verdictOfGroup_B1)
  (.seq (.reg [.r 19 (.mv (.t 3)),
     .c 20 (.f 94) [.t 19],
     .r 2 (.mv (.t 20))])
  .ret))))
theorem fit_reply_verdictOfGroup : fits Tryd.prog 93 Tryd.f93 sc_reply_verdictOfGroup [.t 2] 1 = true := by kernel_rfl

def sc_reply_verdictOf_L1 : SC :=
  (.seq (.reg [.r 10 (.bin .lss (.t 9) (.t 8))])
  (.seq (.cond (.t 10)
    .skip
    (.exit 0))
  (.seq (.block 1 (.seq (.reg [.r 11 (.idx 3 (.t 7) (.t 9)),
       .o 12 (.ldA 3 (.t 11)),
       .w 5 (.boxM (.c (.agg [.d (.str []), .d (.int .i64 0), .nils]))),
       .w 0 (.st 3 (.t 5) (.t 12))])
    (.reg [.r 13 (.mv (.t 3)),
       .r 14 (.fld 1 (.t 5)),
       .o 15 (.ld1 (.t 14)),
       .r 16 (.bslice 1 [.t 15]),
       .w 17 (.app 3 1 (.t 13) (.t 16)),
       .r 3 (.mv (.t 17))])))
  (.reg [.r 18 (.bin .add (.t 9) (.c (.d (.int .i64 1)))),
     .r 9 (.mv (.t 18))]))))
def sc_reply_verdictOf_B1 : SC := .block 0 (.loop sc_reply_verdictOf_L1)
/-- interchange/reply.verdictOf -/
def sc_reply_verdictOf : SC :=
  (.seq (.reg [.r 1 (.boxI (.t 0)),
     .r 2 (.mv (.c (.d (.int .i64 0))))])
  (.seq (.reg [.r 3 (.mv (.c (.nils)))])
  (.seq (.seq (.reg [.r 6 (.fld 2 (.t 1)),
     .o 7 (.ld1 (.t 6)),
     .r 8 (.len (.t 7)),
     .r 9 (.mv (.c (.d (.int .i64 0))))])
  sc_reply_verdictOf_B1)
  (.seq (.reg [.r 19 (.mv (.t 3)),
     .c 20 (.f 94) [.t 19],
     .r 2 (.mv (.t 20))])
  .ret))))
theorem fit_reply_verdictOf : fits Tryd.prog 64 Tryd.f64 sc_reply_verdictOf [.t 2] 1 = true := by kernel_rfl

def sc_interchangeref7_checkGroup_L1 : SC :=
  (.seq (.seq (.reg [.r 21 (.mv (.t 6)),
     .r 22 (.mv (.t 1)),
     .r 23 (.bin .lss (.t 21) (.t 22))])
  (.cond (.t 23)
    .skip
    (.exit 0)))
  (.seq (.block 1 (.seq (.regD [.r 26 (.mv (.t 0)),
       .r 27 (.mv (.t 6)),
       .r 28 (.idx 3 (.t 26) (.t 27)),
       .r 29 (.fld 0 (.t 28)),
       .r 30 (.ld1 (.t 29)),
       .r 31 (.fld 0 (.t 5)),
       .r 32 (.ld1 (.t 31)),
       .r 33 (.bin .eql (.t 30) (.t 32))])
    (.cond (.t 33)
      (.seq (.reg [.r 4 (.mv (.c (.d (.int .i64 7))))])
      .ret)
      .skip)))
  (.reg [.r 24 (.mv (.t 6)),
     .r 25 (.bin .add (.t 24) (.c (.d (.int .i64 1)))),
     .r 6 (.mv (.t 25))])))
def sc_interchangeref7_checkGroup_B1 : SC := .block 0 (.loop sc_interchangeref7_checkGroup_L1)
def sc_interchangeref7_checkGroup_L2 : SC :=
  (.seq (.seq (.reg [.r 34 (.mv (.t 7)),
     .r 35 (.fld 2 (.t 5)),
     .o 36 (.ld1 (.t 35)),
     .r 37 (.len (.t 36)),
     .r 38 (.bin .lss (.t 34) (.t 37))])
  (.cond (.t 38)
    .skip
    (.exit 2)))
  (.seq (.block 3 (.seq (.reg [.r 41 (.fld 2 (.t 5)),
       .o 42 (.ld1 (.t 41)),
       .r 43 (.mv (.t 7)),
       .c 44 (.f 95) [.t 42, .t 43],
       .r 8 (.mv (.t 44))])
    (.seq (.reg [.r 45 (.mv (.t 8)),
       .r 46 (.bin .neq (.t 45) (.c (.d (.int .i64 0))))])
    (.cond (.t 46)
      (.seq (.reg [.r 47 (.mv (.t 8)),
         .r 4 (.mv (.t 47))])
      .ret)
      .skip))))
  (.reg [.r 39 (.mv (.t 7)),
     .r 40 (.bin .add (.t 39) (.c (.d (.int .i64 1)))),
     .r 7 (.mv (.t 40))])))
def sc_interchangeref7_checkGroup_B2 : SC := .block 2 (.loop sc_interchangeref7_checkGroup_L2)
/-- interchange/interchangeref7.checkGroup -/
def sc_interchangeref7_checkGroup : SC :=
  (.seq (.reg [.r 4 (.mv (.c (.d (.int .i64 0))))])
  (.seq (.reg [.r 9 (.mv (.t 0)),
     .r 10 (.mv (.t 1)),
     .r 11 (.idx 3 (.t 9) (.t 10)),
     .o 12 (.ldA 3 (.t 11)),
     .w 5 (.boxM (.c (.agg [.d (.str []), .d (.int .i64 0), .nils]))),
     .w 0 (.st 3 (.t 5) (.t 12))])
  (.seq (.seq (.reg [.r 13 (.fld 0 (.t 5)),
     .o 14 (.ld1 (.t 13)),
     .c 15 (.f 65) [.t 14],
     .r 16 (.not (.t 15))])
  (.cond (.t 16)
    (.seq (.reg [.r 4 (.mv (.c (.d (.int .i64 3))))])
    .ret)
    .skip))
  (.seq (.seq (.reg [.r 17 (.fld 1 (.t 5)),
     .o 18 (.ld1 (.t 17)),
     .c 19 (.f 66) [.t 18],
     .r 20 (.not (.t 19))])
  (.cond (.t 20)
    (.seq (.reg [.r 4 (.mv (.c (.d (.int .i64 4))))])
    .ret)
    .skip))
  (.seq (.seq (.reg [.r 6 (.mv (.c (.d (.int .i64 0))))])
  sc_interchangeref7_checkGroup_B1)
  (.seq (.seq (.reg [.r 7 (.mv (.c (.d (.int .i64 0))))])
  sc_interchangeref7_checkGroup_B2)
  (.seq (.seq (.regD [.r 48 (.fld 1 (.t 5)),
     .r 49 (.ld1 (.t 48)),
     .r 50 (.ldA 3 (.t 5)),
     .c 51 (.f 96) [.t 50],
     .r 52 (.bin .neq (.t 49) (.t 51))])
  (.cond (.t 52)
    (.seq (.reg [.r 4 (.mv (.c (.d (.int .i64 12))))])
    .ret)
    .skip))
  (.seq (.reg [.r 4 (.mv (.c (.d (.int .i64 0))))])
  .ret))))))))
theorem fit_interchangeref7_checkGroup : fits Tryd.prog 67 Tryd.f67 sc_interchangeref7_checkGroup [.t 4] 2 = true := by kernel_rfl

def sc_reply_CheckBook_L1 : SC :=
  (.seq (.reg [.r 11 (.bin .lss (.t 10) (.t 9))])
  (.seq (.cond (.t 11)
    .skip
    (.exit 0))
  (.seq (.block 1 (.seq (.reg [.r 12 (.mv (.t 10)),
       .r 3 (.mv (.t 12))])
    (.seq (.reg [.r 13 (.mv (.t 0)),
       .r 14 (.mv (.t 3)),
       .c 15 (.f 84) [.t 13, .t 14],
       .r 4 (.mv (.t 15))])
    (.seq (.reg [.r 16 (.mv (.t 4)),
       .r 17 (.bin .neq (.t 16) (.c (.d (.int .i64 0))))])
    (.cond (.t 17)
      (.seq (.reg [.r 18 (.mv (.t 4)),
         .r 2 (.mv (.t 18))])
      .ret)
      .skip)))))
  (.reg [.r 19 (.bin .add (.t 10) (.c (.d (.int .i64 1)))),
     .r 10 (.mv (.t 19))]))))
def sc_reply_CheckBook_B1 : SC := .block 0 (.loop sc_reply_CheckBook_L1)
/-- interchange/reply.CheckBook -/
def sc_reply_CheckBook : SC :=
  (.seq (.reg [.r 2 (.mv (.c (.d (.int .i64 0))))])
  (.seq (.seq (.reg [.r 5 (.mv (.t 0)),
     .r 6 (.len (.t 5)),
     .r 7 (.bin .gtr (.t 6) (.c (.d (.int .i64 3000))))])
  (.cond (.t 7)
    (.seq (.reg [.r 2 (.mv (.c (.d (.int .i64 2))))])
    .ret)
    .skip))
  (.seq (.seq (.reg [.r 8 (.mv (.t 0)),
     .r 9 (.len (.t 8)),
     .r 10 (.mv (.c (.d (.int .i64 0))))])
  sc_reply_CheckBook_B1)
  (.seq (.reg [.r 2 (.mv (.c (.d (.int .i64 0))))])
  .ret))))
theorem fit_reply_CheckBook : fits Tryd.prog 51 Tryd.f51 sc_reply_CheckBook [.t 2] 1 = true := by kernel_rfl

def sc_interchangeref7_CheckBook_L1 : SC :=
  (.seq (.seq (.reg [.r 8 (.mv (.t 3)),
     .r 9 (.mv (.t 0)),
     .r 10 (.len (.t 9)),
     .r 11 (.bin .lss (.t 8) (.t 10))])
  (.cond (.t 11)
    .skip
    (.exit 0)))
  (.seq (.block 1 (.seq (.seq (.reg [.r 14 (.mv (.t 0)),
       .r 15 (.mv (.t 3)),
       .r 16 (.idx 5 (.t 14) (.t 15)),
       .o 17 (.ldA 5 (.t 16)),
       .c 18 (.f 85) [.t 17],
       .r 4 (.mv (.t 18))])
    (.seq (.reg [.r 19 (.mv (.t 4)),
       .r 20 (.bin .neq (.t 19) (.c (.d (.int .i64 0))))])
    (.cond (.t 20)
      (.seq (.reg [.r 21 (.mv (.t 4)),
         .r 2 (.mv (.t 21))])
      .ret)
      .skip)))
    (.seq (.regD (.r 22 (.mv (.t 3)) :: .r 23 (.bin .gtr (.t 22) (.c (.d (.int .i64 0)))) :: .r 24 (.mv (.t 23)) :: gapp [25, 26, 27, 28, 29, 30, 31, 32, 33, 34, 35, 36] 24 true (.r 25 (.mv (.t 0)) :: .r 26 (.mv (.t 3)) :: .r 27 (.idx 5 (.t 25) (.t 26)) :: .r 28 (.fld 1 (.t 27)) :: .r 29 (.ld1 (.t 28)) :: .r 30 (.mv (.t 0)) :: .r 31 (.mv (.t 3)) :: .r 32 (.bin .sub (.t 31) (.c (.d (.int .i64 1)))) :: .r 33 (.idx 5 (.t 30) (.t 32)) :: .r 34 (.fld 1 (.t 33)) :: .r 35 (.ld1 (.t 34)) :: .r 36 (.bin .lss (.t 29) (.t 35)) :: []) (.r 37 (.pick (.t 24) (.t 36) (.c (.d (.bool false)))) :: [])))
    (.cond (.t 37)
      (.seq (.reg [.r 2 (.mv (.c (.d (.int .i64 8))))])
      .ret)
      .skip))))
  (.reg [.r 12 (.mv (.t 3)),
     .r 13 (.bin .add (.t 12) (.c (.d (.int .i64 1)))),
     .r 3 (.mv (.t 13))])))
def sc_interchangeref7_CheckBook_B1 : SC := .block 0 (.loop sc_interchangeref7_CheckBook_L1)
/-- interchange/interchangeref7.CheckBook -/
def sc_interchangeref7_CheckBook : SC :=
  (.seq (.reg [.r 2 (.mv (.c (.d (.int .i64 0))))])
  (.seq (.seq (.reg [.r 5 (.mv (.t 0)),
     .r 6 (.len (.t 5)),
     .r 7 (.bin .gtr (.t 6) (.c (.d (.int .i64 3000))))])
  (.cond (.t 7)
    (.seq (.reg [.r 2 (.mv (.c (.d (.int .i64 2))))])
    .ret)
    .skip))
  (.seq (.seq (.reg [.r 3 (.mv (.c (.d (.int .i64 0))))])
  sc_interchangeref7_CheckBook_B1)
  (.seq (.reg [.r 2 (.mv (.c (.d (.int .i64 0))))])
  .ret))))
theorem fit_interchangeref7_CheckBook : fits Tryd.prog 55 Tryd.f55 sc_interchangeref7_CheckBook [.t 2] 1 = true := by kernel_rfl

set_option maxRecDepth 100000 in
set_option maxHeartbeats 40000000 in
noncomputable def sims_G4_3_0 : (∀ (x0 : Tapi_MessageReply) (x1 : List Tapi_MessageReply), {m : Option (Int) // ∀ r, m = some r → PureSpec Tryd.prog 92 [.agg (rTapi_MessageReply x0), .slice (List.map rTapi_MessageReply x1)] (.int .i64 r)}) × (∀ (x0 : Tapi_GroupReply), {m : Option (Int) // ∀ r, m = some r → PureSpec Tryd.prog 93 [.agg (rTapi_GroupReply x0)] (.int .i64 r)}) × (∀ (x0 : Tapi_Reply), {m : Option (Int) // ∀ r, m = some r → PureSpec Tryd.prog 64 [.agg (rTapi_Reply x0)] (.int .i64 r)}) × (∀ (x0 : List Tapi_GroupReply) (x1 : Int), {m : Option (Int) // ∀ r, m = some r → PureSpec Tryd.prog 67 [.slice (List.map rTapi_GroupReply x0), .int .i64 x1] (.int .i64 r)}) × (∀ (x0 : List Tapi_BookEvent), {m : Option (Int) // ∀ r, m = some r → PureSpec Tryd.prog 51 [.slice (List.map rTapi_BookEvent x0)] (.int .i64 r)}) × (∀ (x0 : List Tapi_BookEvent), {m : Option (Int) // ∀ r, m = some r → PureSpec Tryd.prog 55 [.slice (List.map rTapi_BookEvent x0)] (.int .i64 r)}) := by
  refine ⟨?g0, ?g1, ?g2, ?g3, ?g4, ?g5⟩
  case' g0 => (intro x0 x1; apply Subtype.mk; intro r hm; apply pure_walk Tryd.func92 fit_reply_messageFault; unfold sc_reply_messageFault)
  case' g1 => (intro x0; apply Subtype.mk; intro r hm; apply pure_walk Tryd.func93 fit_reply_verdictOfGroup; unfold sc_reply_verdictOfGroup)
  case' g2 => (intro x0; apply Subtype.mk; intro r hm; apply pure_walk Tryd.func64 fit_reply_verdictOf; unfold sc_reply_verdictOf)
  case' g3 => (intro x0 x1; apply Subtype.mk; intro r hm; apply pure_walk Tryd.func67 fit_interchangeref7_checkGroup; unfold sc_interchangeref7_checkGroup)
  case' g4 => (intro x0; apply Subtype.mk; intro r hm; apply pure_walk Tryd.func51 fit_reply_CheckBook; unfold sc_reply_CheckBook)
  case' g5 => (intro x0; apply Subtype.mk; intro r hm; apply pure_walk Tryd.func55 fit_interchangeref7_CheckBook; unfold sc_interchangeref7_CheckBook)
  all_goals (repeat' (first | with_reducible refine W_seq ?_ | with_reducible refine W_reg ?_ | with_reducible refine W_regD ?_ | with_reducible refine W_block ?_ | with_reducible refine W_skip ?_ | with_reducible refine W_ret ?_ | with_reducible refine W_exit ?_ | with_reducible refine O_nil ?_ | with_reducible refine K_seq ?_ | with_reducible refine K_seqE ?_ | with_reducible refine K_seqR ?_ | with_reducible refine K_block ?_ | with_reducible refine K_blockR ?_ | with_reducible refine K_blockE ?_ | ((with_reducible apply K_blockN); decide) | with_reducible refine O_o2r ?_ | ((with_reducible apply O_idxr hm); (iterate 2 (simp only [push_cast, seval]; rfl)); (intro _; rfl); intro e hm) | ((with_reducible apply O_idxVr hm); (iterate 3 (simp only [push_cast, seval]; rfl)); intro e hm) | ((with_reducible apply O_idxLr hm (row := rowI)); (iterate 2 (simp only [push_cast, seval]; rfl)); (focus ((repeat' (first | rfl | (with_reducible first | apply fT_Tapi_Element | apply fT_Tapi_Marks | apply fT_Tapi_Segment | apply fT_Tapi_GroupReply | apply fT_Tapi_MessageReply | apply fT_Tapi_Flaw | apply fT_Tapi_Spot | apply fT_Tapi_Reply | apply fT_Tapi_BookEvent | apply fT_Tapi_Sending | apply fT_Tapi_Standing | apply f_optN | apply f_optS | apply f_some | apply f_tup | apply f_agg | apply f_ptr | apply f_fn | apply dv_slice | apply sv_d | apply f_cons | apply fold_nil | apply fold_cons | apply fold_app | apply f_rowI | apply f_rowY | apply f_rowS | apply f_rowB | apply f_rowL) | (with_reducible apply f_byte; decide))); done)); (simp only [push_cast, seval]; rfl); (intro _; rfl); intro e hm) | ((with_reducible apply O_r); (simp only [push_cast, seval]; rfl); (first | exact trivial | omega)) | ((with_reducible apply O_ldV1r hm); (iterate 2 (simp only [push_cast, seval]; rfl)); (intro _; rfl); intro e hm) | ((with_reducible apply O_strr hm); (iterate 2 (simp only [push_cast, seval]; rfl)); intro hm) | ((with_reducible apply O_and hm); (simp only [push_cast, seval]; rfl); rfl; intro v hm; rotate_left; intro v g hm) | ((with_reducible apply O_or hm); (simp only [push_cast, seval]; rfl); rfl; intro v hm; rotate_left; intro v g hm) | ((with_reducible apply W_condT); (focus (simp only [push_cast, seval]; done))) | ((with_reducible apply W_condF); (focus (simp only [push_cast, seval]; done))) | ((with_reducible apply O_cS hm); (simp only [push_cast, seval]; rfl); (focus (first | exact spec_kit_IsRef _ | exact spec_reply_isVerdict _ | exact spec_slices_ContainsFunc_interchange_api_MessageReply_interchange_api_MessageReply _ _ _ _ (fun a0 r h => spec_reply_messageFault_1 a0 _ r h) | exact spec_slices_ContainsFunc_interchange_api_MessageReply_interchange_api_MessageReply _ _ _ _ (fun a0 r h => spec_kit_IsRef a0 r h) | exact spec_slices_ContainsFunc_interchange_api_MessageReply_interchange_api_MessageReply _ _ _ _ (fun a0 r h => spec_reply_isVerdict a0 r h) | exact spec_slices_ContainsFunc_interchange_api_MessageReply_interchange_api_MessageReply _ _ _ _ (fun a0 r h => spec_reply_flawsFault a0 r h) | exact spec_slices_ContainsFunc_interchange_api_MessageReply_interchange_api_MessageReply _ _ _ _ (fun a0 r h => spec_kit_IsName a0 r h) | exact spec_reply_flawsFault _ | exact spec_kit_IsName _ | exact spec_reply_messageFault_1 _ _ | exact spec_reply_together _ | exact spec_interchangeref2_IsReference _ | exact spec_interchangeref7_isVerdict _ | exact spec_interchangeref7_checkMessage _ _ | exact spec_interchangeref7_OfGroup _ | exact spec_reply_eventFault _ _ | exact spec_interchangeref7_checkEvent _)); intro x hm) | ((with_reducible apply O_cF hm); (simp only [push_cast, seval]; rfl); (first | apply spec_kit_IsRef _ | apply spec_reply_isVerdict _ | apply spec_slices_ContainsFunc_interchange_api_MessageReply_interchange_api_MessageReply _ _ _ _ (fun a0 r h => spec_reply_messageFault_1 a0 _ r h) | apply spec_slices_ContainsFunc_interchange_api_MessageReply_interchange_api_MessageReply _ _ _ _ (fun a0 r h => spec_kit_IsRef a0 r h) | apply spec_slices_ContainsFunc_interchange_api_MessageReply_interchange_api_MessageReply _ _ _ _ (fun a0 r h => spec_reply_isVerdict a0 r h) | apply spec_slices_ContainsFunc_interchange_api_MessageReply_interchange_api_MessageReply _ _ _ _ (fun a0 r h => spec_reply_flawsFault a0 r h) | apply spec_slices_ContainsFunc_interchange_api_MessageReply_interchange_api_MessageReply _ _ _ _ (fun a0 r h => spec_kit_IsName a0 r h) | apply spec_reply_flawsFault _ | apply spec_kit_IsName _ | apply spec_reply_messageFault_1 _ _ | apply spec_reply_together _ | apply spec_interchangeref2_IsReference _ | apply spec_interchangeref7_isVerdict _ | apply spec_interchangeref7_checkMessage _ _ | apply spec_interchangeref7_OfGroup _ | apply spec_reply_eventFault _ _ | apply spec_interchangeref7_checkEvent _); (any_goals ((repeat' (first | rfl | (with_reducible first | apply fT_Tapi_Element | apply fT_Tapi_Marks | apply fT_Tapi_Segment | apply fT_Tapi_GroupReply | apply fT_Tapi_MessageReply | apply fT_Tapi_Flaw | apply fT_Tapi_Spot | apply fT_Tapi_Reply | apply fT_Tapi_BookEvent | apply fT_Tapi_Sending | apply fT_Tapi_Standing | apply f_optN | apply f_optS | apply f_some | apply f_tup | apply f_agg | apply f_ptr | apply f_fn | apply dv_slice | apply sv_d | apply f_cons | apply fold_nil | apply fold_cons | apply fold_app | apply f_rowI | apply f_rowY | apply f_rowS | apply f_rowB | apply f_rowL) | (with_reducible apply f_byte; decide))); done)); intro x hm) | ((with_reducible apply O_clS hm); (simp only [push_cast, seval]; rfl); (focus (first | exact spec_kit_IsRef _ | exact spec_reply_isVerdict _ | exact spec_slices_ContainsFunc_interchange_api_MessageReply_interchange_api_MessageReply _ _ _ _ (fun a0 r h => spec_reply_messageFault_1 a0 _ r h) | exact spec_slices_ContainsFunc_interchange_api_MessageReply_interchange_api_MessageReply _ _ _ _ (fun a0 r h => spec_kit_IsRef a0 r h) | exact spec_slices_ContainsFunc_interchange_api_MessageReply_interchange_api_MessageReply _ _ _ _ (fun a0 r h => spec_reply_isVerdict a0 r h) | exact spec_slices_ContainsFunc_interchange_api_MessageReply_interchange_api_MessageReply _ _ _ _ (fun a0 r h => spec_reply_flawsFault a0 r h) | exact spec_slices_ContainsFunc_interchange_api_MessageReply_interchange_api_MessageReply _ _ _ _ (fun a0 r h => spec_kit_IsName a0 r h) | exact spec_reply_flawsFault _ | exact spec_kit_IsName _ | exact spec_reply_messageFault_1 _ _ | exact spec_reply_together _ | exact spec_interchangeref2_IsReference _ | exact spec_interchangeref7_isVerdict _ | exact spec_interchangeref7_checkMessage _ _ | exact spec_interchangeref7_OfGroup _ | exact spec_reply_eventFault _ _ | exact spec_interchangeref7_checkEvent _)); (intro _; rfl); intro x hm) | ((with_reducible apply O_cvS hm); (iterate 2 (simp only [push_cast, seval]; rfl)); (focus (first | exact spec_kit_IsRef _ | exact spec_reply_isVerdict _ | exact spec_slices_ContainsFunc_interchange_api_MessageReply_interchange_api_MessageReply _ _ _ _ (fun a0 r h => spec_reply_messageFault_1 a0 _ r h) | exact spec_slices_ContainsFunc_interchange_api_MessageReply_interchange_api_MessageReply _ _ _ _ (fun a0 r h => spec_kit_IsRef a0 r h) | exact spec_slices_ContainsFunc_interchange_api_MessageReply_interchange_api_MessageReply _ _ _ _ (fun a0 r h => spec_reply_isVerdict a0 r h) | exact spec_slices_ContainsFunc_interchange_api_MessageReply_interchange_api_MessageReply _ _ _ _ (fun a0 r h => spec_reply_flawsFault a0 r h) | exact spec_slices_ContainsFunc_interchange_api_MessageReply_interchange_api_MessageReply _ _ _ _ (fun a0 r h => spec_kit_IsName a0 r h) | exact spec_reply_flawsFault _ | exact spec_kit_IsName _ | exact spec_reply_messageFault_1 _ _ | exact spec_reply_together _ | exact spec_interchangeref2_IsReference _ | exact spec_interchangeref7_isVerdict _ | exact spec_interchangeref7_checkMessage _ _ | exact spec_interchangeref7_OfGroup _ | exact spec_reply_eventFault _ _ | exact spec_interchangeref7_checkEvent _)); intro x hm) | ((with_reducible apply O_w); (simp only [push_cast, seval]; rfl); (first | exact trivial | omega)) | ((with_reducible apply O_appL hm (row := rowI)); (iterate 5 (simp only [push_cast, seval]; rfl)); (focus ((repeat' (first | rfl | (with_reducible first | apply fT_Tapi_Element | apply fT_Tapi_Marks | apply fT_Tapi_Segment | apply fT_Tapi_GroupReply | apply fT_Tapi_MessageReply | apply fT_Tapi_Flaw | apply fT_Tapi_Spot | apply fT_Tapi_Reply | apply fT_Tapi_BookEvent | apply fT_Tapi_Sending | apply fT_Tapi_Standing | apply f_optN | apply f_optS | apply f_some | apply f_tup | apply f_agg | apply f_ptr | apply f_fn | apply dv_slice | apply sv_d | apply f_cons | apply fold_nil | apply fold_cons | apply fold_app | apply f_rowI | apply f_rowY | apply f_rowS | apply f_rowB | apply f_rowL) | (with_reducible apply f_byte; decide))); done)); (focus ((repeat' (first | rfl | (with_reducible first | apply fT_Tapi_Element | apply fT_Tapi_Marks | apply fT_Tapi_Segment | apply fT_Tapi_GroupReply | apply fT_Tapi_MessageReply | apply fT_Tapi_Flaw | apply fT_Tapi_Spot | apply fT_Tapi_Reply | apply fT_Tapi_BookEvent | apply fT_Tapi_Sending | apply fT_Tapi_Standing | apply f_optN | apply f_optS | apply f_some | apply f_tup | apply f_agg | apply f_ptr | apply f_fn | apply dv_slice | apply sv_d | apply f_cons | apply fold_nil | apply fold_cons | apply fold_app | apply f_rowI | apply f_rowY | apply f_rowS | apply f_rowB | apply f_rowL) | (with_reducible apply f_byte; decide))); done)); rfl; decide; (intro _; rfl); intro hm) | ((with_reducible apply O_appV hm); (iterate 4 (simp only [push_cast, seval]; rfl)); (focus ((repeat' (first | rfl | (with_reducible first | apply fT_Tapi_Element | apply fT_Tapi_Marks | apply fT_Tapi_Segment | apply fT_Tapi_GroupReply | apply fT_Tapi_MessageReply | apply fT_Tapi_Flaw | apply fT_Tapi_Spot | apply fT_Tapi_Reply | apply fT_Tapi_BookEvent | apply fT_Tapi_Sending | apply fT_Tapi_Standing | apply f_optN | apply f_optS | apply f_some | apply f_tup | apply f_agg | apply f_ptr | apply f_fn | apply dv_slice | apply sv_d | apply f_cons | apply fold_nil | apply fold_cons | apply fold_app | apply f_rowI | apply f_rowY | apply f_rowS | apply f_rowB | apply f_rowL) | (with_reducible apply f_byte; decide))); done)); decide; (intro _; rfl); intro hm) | ((with_reducible apply O_appN hm); (focus (simp only [push_cast, seval]; done)); (iterate 2 (simp only [push_cast, seval]; rfl)); (focus ((repeat' (first | rfl | (with_reducible first | apply fT_Tapi_Element | apply fT_Tapi_Marks | apply fT_Tapi_Segment | apply fT_Tapi_GroupReply | apply fT_Tapi_MessageReply | apply fT_Tapi_Flaw | apply fT_Tapi_Spot | apply fT_Tapi_Reply | apply fT_Tapi_BookEvent | apply fT_Tapi_Sending | apply fT_Tapi_Standing | apply f_optN | apply f_optS | apply f_some | apply f_tup | apply f_agg | apply f_ptr | apply f_fn | apply dv_slice | apply sv_d | apply f_cons | apply fold_nil | apply fold_cons | apply fold_app | apply f_rowI | apply f_rowY | apply f_rowS | apply f_rowB | apply f_rowL) | (with_reducible apply f_byte; decide))); done)); decide; (intro _; rfl); intro hm) | ((with_reducible apply O_stV hm); (iterate 3 (simp only [push_cast, seval]; rfl)); rfl; (intro _; rfl); rfl; (focus (intro a; simp only [push_cast, seval]; rfl)); (focus (intro a; (repeat' (first | rfl | with_reducible apply eT_Tapi_Element | with_reducible apply eT_Tapi_Marks | with_reducible apply eT_Tapi_Segment | with_reducible apply eT_Tapi_GroupReply | with_reducible apply eT_Tapi_MessageReply | with_reducible apply eT_Tapi_Flaw | with_reducible apply eT_Tapi_Spot | with_reducible apply eT_Tapi_Reply | with_reducible apply eT_Tapi_BookEvent | with_reducible apply eT_Tapi_Sending | with_reducible apply eT_Tapi_Standing)); done)); intro e hm) | ((with_reducible apply S_condB hm); (simp only [push_cast, seval]; rfl); intro hm; rotate_left; intro hm) | ((with_reducible apply K_endS hm); (focus (simp only [resOf, resL, RV.get, push_cast, seval]; rfl)); (focus ((repeat' (first | rfl | (with_reducible first | apply fT_Tapi_Element | apply fT_Tapi_Marks | apply fT_Tapi_Segment | apply fT_Tapi_GroupReply | apply fT_Tapi_MessageReply | apply fT_Tapi_Flaw | apply fT_Tapi_Spot | apply fT_Tapi_Reply | apply fT_Tapi_BookEvent | apply fT_Tapi_Sending | apply fT_Tapi_Standing | apply f_optN | apply f_optS | apply f_some | apply f_tup | apply f_agg | apply f_ptr | apply f_fn | apply dv_slice | apply sv_d | apply f_cons | apply fold_nil | apply fold_cons | apply fold_app | apply f_rowI | apply f_rowY | apply f_rowS | apply f_rowB | apply f_rowL) | (with_reducible apply f_byte; decide))); done))) | ((with_reducible apply K_bool hm); (simp only [push_cast, seval]; rfl)) | ((with_reducible apply K_leave hm); intro r hm) | ((with_reducible apply K_leaveR hm); intro r hm) | ((apply S_loopY (b := 1) (X := sc_reply_messageFault_B1) (x := sc_reply_messageFault_L1) rfl (fun (c : SV × SV × SV × SV) (s : Int) => st [(2, c.1), (5, c.2.1), (55, c.2.2.1), (56, c.2.2.2), (57, .d (.int .i64 s))] []) (c := (_, _, _, _)) (s0 := _) hm); (focus (first | (dsimp only; done) | (dsimp only; rfl) | rfl)); (with_reducible refine Then.mk ?_ ?_)) | ((apply S_loopY (b := 0) (X := sc_reply_verdictOfGroup_B1) (x := sc_reply_verdictOfGroup_L1) rfl (fun (c : SV × SV) (s : (List Int) × Int) => st [(3, .vec 3), (7, c.1), (8, c.2), (9, .d (.int .i64 s.2))] [(3, .vec 3 1 (vrow rowI s.1))]) (c := (_, _)) (s0 := (_, _)) hm); (focus (first | (dsimp only; done) | (dsimp only; rfl) | rfl)); (with_reducible refine Then.mk ?_ ?_); apply Imp.trans; (focus (apply imp_vecnil (slot := 3) (id := 3) (e := 3) (sz := 1); (focus (simp only [push_cast, seval]; done))))) | ((apply S_loopY (b := 0) (X := sc_reply_verdictOf_B1) (x := sc_reply_verdictOf_L1) rfl (fun (c : SV × SV) (s : (List Int) × Int) => st [(3, .vec 3), (7, c.1), (8, c.2), (9, .d (.int .i64 s.2))] [(3, .vec 3 1 (vrow rowI s.1))]) (c := (_, _)) (s0 := (_, _)) hm); (focus (first | (dsimp only; done) | (dsimp only; rfl) | rfl)); (with_reducible refine Then.mk ?_ ?_); apply Imp.trans; (focus (apply imp_vecnil (slot := 3) (id := 3) (e := 3) (sz := 1); (focus (simp only [push_cast, seval]; done))))) | ((apply S_loopY (b := 0) (X := sc_interchangeref7_checkGroup_B1) (x := sc_interchangeref7_checkGroup_L1) rfl (fun (c : SV × SV × Ch) (s : Int) => st [(0, c.1), (1, c.2.1), (5, .ref 5 0), (6, .d (.int .i64 s))] [(5, c.2.2)]) (c := (_, _, _)) (s0 := _) hm); (focus (first | (dsimp only; done) | (dsimp only; rfl) | rfl)); (with_reducible refine Then.mk ?_ ?_)) | ((apply S_loopY (b := 2) (X := sc_interchangeref7_checkGroup_B2) (x := sc_interchangeref7_checkGroup_L2) rfl (fun (c : Ch) (s : Int) => st [(5, .ref 5 0), (7, .d (.int .i64 s))] [(5, c)]) (c := _) (s0 := _) hm); (focus (first | (dsimp only; done) | (dsimp only; rfl) | rfl)); (with_reducible refine Then.mk ?_ ?_)) | ((apply S_loopY (b := 0) (X := sc_reply_CheckBook_B1) (x := sc_reply_CheckBook_L1) rfl (fun (c : SV × SV) (s : Int) => st [(0, c.1), (9, c.2), (10, .d (.int .i64 s))] []) (c := (_, _)) (s0 := _) hm); (focus (first | (dsimp only; done) | (dsimp only; rfl) | rfl)); (with_reducible refine Then.mk ?_ ?_)) | ((apply S_loopY (b := 0) (X := sc_interchangeref7_CheckBook_B1) (x := sc_interchangeref7_CheckBook_L1) rfl (fun (c : SV) (s : Int) => st [(0, c), (3, .d (.int .i64 s))] []) (c := _) (s0 := _) hm); (focus (first | (dsimp only; done) | (dsimp only; rfl) | rfl)); (with_reducible refine Then.mk ?_ ?_)) | ((apply K_next (s' := (_, _)) hm); (focus (first | (dsimp only; done) | (dsimp only; rfl) | rfl))) | ((apply K_brk (s' := (_, _)) hm); (focus (first | (dsimp only; done) | (dsimp only; rfl) | rfl))) | ((apply K_next (s' := _) hm); (focus (first | (dsimp only; done) | (dsimp only; rfl) | rfl))) | ((apply K_brk (s' := _) hm); (focus (first | (dsimp only; done) | (dsimp only; rfl) | rfl))) | (((with_reducible apply K_brkN hm); (focus decide); intro r hm)) | (((with_reducible apply K_brkR hm); intro r hm)) | (((with_reducible apply LoopB.of); (focus (first | (dsimp only; done) | (dsimp only; rfl) | rfl)); (focus ((intro _; repeat' (first | with_reducible exact impC_end | with_reducible exact impC_endF | with_reducible refine impC_seq ?_ | with_reducible refine impC_block ?_ | ((with_reducible refine impC_rnd ?_); intro _) | ((with_reducible refine impC_brk ?_); intro _))))); (intro s o hm; first | unfold sc_reply_messageFault_L1 | unfold sc_reply_verdictOfGroup_L1 | unfold sc_reply_verdictOf_L1 | unfold sc_interchangeref7_checkGroup_L1 | unfold sc_interchangeref7_checkGroup_L2 | unfold sc_reply_CheckBook_L1 | unfold sc_interchangeref7_CheckBook_L1); rotate_left; intro s hm)) | (((apply imp_stT; (repeat' (first | with_reducible exact keepT_nil | with_reducible exact keepC_nil | with_reducible apply keepT_cons | with_reducible apply keepC_cons | ((with_reducible apply svle_eq); (focus (first | (simp only [push_cast, seval]; rfl) | rfl)); (focus ((repeat' (first | rfl | (with_reducible first | apply fT_Tapi_Element | apply fT_Tapi_Marks | apply fT_Tapi_Segment | apply fT_Tapi_GroupReply | apply fT_Tapi_MessageReply | apply fT_Tapi_Flaw | apply fT_Tapi_Spot | apply fT_Tapi_Reply | apply fT_Tapi_BookEvent | apply fT_Tapi_Sending | apply fT_Tapi_Standing | apply f_optN | apply f_optS | apply f_some | apply f_tup | apply f_agg | apply f_ptr | apply f_fn | apply dv_slice | apply sv_d | apply f_cons | apply fold_nil | apply fold_cons | apply fold_app | apply f_rowI | apply f_rowY | apply f_rowS | apply f_rowB | apply f_rowL) | (with_reducible apply f_byte; decide))); done))) | ((with_reducible apply svle_td); (focus (first | (simp only [push_cast, seval]; rfl) | rfl)); (focus (first | (simp only [push_cast, seval]; rfl) | rfl)); (focus ((repeat' (first | rfl | (with_reducible first | apply fT_Tapi_Element | apply fT_Tapi_Marks | apply fT_Tapi_Segment | apply fT_Tapi_GroupReply | apply fT_Tapi_MessageReply | apply fT_Tapi_Flaw | apply fT_Tapi_Spot | apply fT_Tapi_Reply | apply fT_Tapi_BookEvent | apply fT_Tapi_Sending | apply fT_Tapi_Standing | apply f_optN | apply f_optS | apply f_some | apply f_tup | apply f_agg | apply f_ptr | apply f_fn | apply dv_slice | apply sv_d | apply f_cons | apply fold_nil | apply fold_cons | apply fold_app | apply f_rowI | apply f_rowY | apply f_rowS | apply f_rowB | apply f_rowL) | (with_reducible apply f_byte; decide))); done))) | ((with_reducible apply chle_eq); (focus (first | (simp only [push_cast, seval]; rfl) | rfl)); (first | with_reducible exact chle_rfl rfl | with_reducible exact chle_map0 | with_reducible apply chle_vec | with_reducible apply chle_box)) | (with_reducible first | apply cT_Tapi_Element | apply cT_Tapi_Marks | apply cT_Tapi_Segment | apply cT_Tapi_GroupReply | apply cT_Tapi_MessageReply | apply cT_Tapi_Flaw | apply cT_Tapi_Spot | apply cT_Tapi_Reply | apply cT_Tapi_BookEvent | apply cT_Tapi_Sending | apply cT_Tapi_Standing | apply r_shS | apply r_shI | apply r_rflO | apply r_oneO | apply r_appO | apply r_nilO | apply c_ownN | apply c_ownL | apply vc_rfl | apply vc_nil | apply vc_cons | apply r_rfl | apply r_rows | apply r_nil | apply r_app | apply r_cons | apply c_rowI | apply c_rowY | apply c_rowS | apply c_rowB | apply c_rowL))); done)))))
noncomputable def m_reply_messageFault (x0 : Tapi_MessageReply) (x1 : List Tapi_MessageReply) : Option (Int) := (sims_G4_3_0.1 x0 x1).1
theorem spec_reply_messageFault (x0 : Tapi_MessageReply) (x1 : List Tapi_MessageReply) : ∀ r, m_reply_messageFault x0 x1 = some r → PureSpec Tryd.prog 92 [.agg (rTapi_MessageReply x0), .slice (List.map rTapi_MessageReply x1)] (.int .i64 r) := (sims_G4_3_0.1 x0 x1).2
noncomputable def m_reply_verdictOfGroup (x0 : Tapi_GroupReply) : Option (Int) := (sims_G4_3_0.2.1 x0).1
theorem spec_reply_verdictOfGroup (x0 : Tapi_GroupReply) : ∀ r, m_reply_verdictOfGroup x0 = some r → PureSpec Tryd.prog 93 [.agg (rTapi_GroupReply x0)] (.int .i64 r) := (sims_G4_3_0.2.1 x0).2
noncomputable def m_reply_verdictOf (x0 : Tapi_Reply) : Option (Int) := (sims_G4_3_0.2.2.1 x0).1
theorem spec_reply_verdictOf (x0 : Tapi_Reply) : ∀ r, m_reply_verdictOf x0 = some r → PureSpec Tryd.prog 64 [.agg (rTapi_Reply x0)] (.int .i64 r) := (sims_G4_3_0.2.2.1 x0).2
noncomputable def m_interchangeref7_checkGroup (x0 : List Tapi_GroupReply) (x1 : Int) : Option (Int) := (sims_G4_3_0.2.2.2.1 x0 x1).1
theorem spec_interchangeref7_checkGroup (x0 : List Tapi_GroupReply) (x1 : Int) : ∀ r, m_interchangeref7_checkGroup x0 x1 = some r → PureSpec Tryd.prog 67 [.slice (List.map rTapi_GroupReply x0), .int .i64 x1] (.int .i64 r) := (sims_G4_3_0.2.2.2.1 x0 x1).2
noncomputable def m_reply_CheckBook (x0 : List Tapi_BookEvent) : Option (Int) := (sims_G4_3_0.2.2.2.2.1 x0).1
theorem spec_reply_CheckBook (x0 : List Tapi_BookEvent) : ∀ r, m_reply_CheckBook x0 = some r → PureSpec Tryd.prog 51 [.slice (List.map rTapi_BookEvent x0)] (.int .i64 r) := (sims_G4_3_0.2.2.2.2.1 x0).2
noncomputable def m_interchangeref7_CheckBook (x0 : List Tapi_BookEvent) : Option (Int) := (sims_G4_3_0.2.2.2.2.2 x0).1
theorem spec_interchangeref7_CheckBook (x0 : List Tapi_BookEvent) : ∀ r, m_interchangeref7_CheckBook x0 = some r → PureSpec Tryd.prog 55 [.slice (List.map rTapi_BookEvent x0)] (.int .i64 r) := (sims_G4_3_0.2.2.2.2.2 x0).2

def sc_reply_groupFault_L1 : SC :=
  (.seq (.reg [.r 26 (.bin .lss (.t 25) (.t 24))])
  (.seq (.cond (.t 26)
    .skip
    (.exit 1))
  (.seq (.block 2 (.seq (.reg [.r 27 (.mv (.t 25)),
       .r 28 (.idx 5 (.t 23) (.t 25)),
       .o 29 (.ldA 5 (.t 28)),
       .w 6 (.boxM (.c (.agg [.d (.str []), .d (.int .i64 0), .d (.bool false), .nils, .nils]))),
       .r 5 (.mv (.t 27)),
       .w 0 (.st 5 (.t 6) (.t 29))])
    (.seq (.regD [.r 30 (.ldA 5 (.t 6)),
       .r 31 (.fld 2 (.t 2)),
       .r 32 (.ld1 (.t 31)),
       .r 33 (.mv (.t 5)),
       .r 34 (.slc 5 (.t 32) none (some (.t 33))),
       .c 35 (.f 92) [.t 30, .t 34],
       .r 7 (.mv (.t 35))])
    (.seq (.reg [.r 36 (.mv (.t 7)),
       .r 37 (.bin .neq (.t 36) (.c (.d (.int .i64 0))))])
    (.cond (.t 37)
      (.seq (.reg [.r 38 (.mv (.t 7)),
         .r 4 (.mv (.t 38))])
      .ret)
      .skip)))))
  (.reg [.r 39 (.bin .add (.t 25) (.c (.d (.int .i64 1)))),
     .r 25 (.mv (.t 39))]))))
def sc_reply_groupFault_B1 : SC := .block 1 (.loop sc_reply_groupFault_L1)
/-- interchange/reply.groupFault -/
def sc_reply_groupFault : SC :=
  (.seq (.reg [.r 2 (.boxI (.t 0)),
     .r 4 (.mv (.c (.d (.int .i64 0))))])
  (.seq (.block 0 (.seq (.reg [.r 9 (.fld 0 (.t 2)),
       .o 10 (.ld1 (.t 9)),
       .c 11 (.f 61) [.t 10],
       .r 12 (.not (.t 11)),
       .r 8 (.mv (.t 12))])
    (.cond (.t 8)
      (.seq (.reg [.r 4 (.mv (.c (.d (.int .i64 3))))])
      .ret)
      (.seq (.reg [.r 14 (.fld 1 (.t 2)),
         .o 15 (.ld1 (.t 14)),
         .c 16 (.f 62) [.t 15],
         .r 17 (.not (.t 16)),
         .r 13 (.mv (.t 17))])
      (.cond (.t 13)
        (.seq (.reg [.r 4 (.mv (.c (.d (.int .i64 4))))])
        .ret)
        (.seq (.reg [.r 19 (.mv (.t 1)),
           .r 20 (.mkfn 91 [.t 2]),
           .c 21 (.f 90) [.t 19, .t 20],
           .r 18 (.mv (.t 21))])
        (.cond (.t 18)
          (.seq (.reg [.r 4 (.mv (.c (.d (.int .i64 7))))])
          .ret)
          .skip)))))))
  (.seq (.seq (.reg [.r 22 (.fld 2 (.t 2)),
     .o 23 (.ld1 (.t 22)),
     .r 24 (.len (.t 23)),
     .r 25 (.mv (.c (.d (.int .i64 0))))])
  sc_reply_groupFault_B1)
  (.seq (.seq (.regD [.r 40 (.ldA 3 (.t 2)),
     .c 41 (.f 93) [.t 40],
     .r 42 (.fld 1 (.t 2)),
     .r 43 (.ld1 (.t 42)),
     .r 44 (.bin .neq (.t 41) (.t 43))])
  (.cond (.t 44)
    (.seq (.reg [.r 4 (.mv (.c (.d (.int .i64 12))))])
    .ret)
    .skip))
  (.seq (.reg [.r 4 (.mv (.c (.d (.int .i64 0))))])
  .ret)))))
theorem fit_reply_groupFault : fits Tryd.prog 63 Tryd.f63 sc_reply_groupFault [.t 4] 2 = true := by kernel_rfl

def sc_interchangeref7_CheckReply_L1 : SC :=
  (.seq (.seq (.reg [.r 18 (.mv (.t 4)),
     .r 19 (.fld 2 (.t 1)),
     .o 20 (.ld1 (.t 19)),
     .r 21 (.len (.t 20)),
     .r 22 (.bin .lss (.t 18) (.t 21))])
  (.cond (.t 22)
    .skip
    (.exit 0)))
  (.seq (.block 1 (.seq (.seq (.reg [.r 25 (.fld 2 (.t 1)),
       .o 26 (.ld1 (.t 25)),
       .r 27 (.mv (.t 4)),
       .c 28 (.f 67) [.t 26, .t 27],
       .r 5 (.mv (.t 28))])
    (.seq (.reg [.r 29 (.mv (.t 5)),
       .r 30 (.bin .neq (.t 29) (.c (.d (.int .i64 0))))])
    (.cond (.t 30)
      (.seq (.reg [.r 31 (.mv (.t 5)),
         .r 2 (.mv (.t 31))])
      .ret)
      .skip)))
    (.reg [.r 32 (.mv (.t 3)),
       .r 33 (.fld 2 (.t 1)),
       .o 34 (.ld1 (.t 33)),
       .r 35 (.mv (.t 4)),
       .r 36 (.idx 3 (.t 34) (.t 35)),
       .r 37 (.fld 2 (.t 36)),
       .o 38 (.ld1 (.t 37)),
       .r 39 (.len (.t 38)),
       .r 40 (.bin .add (.t 32) (.t 39)),
       .r 3 (.mv (.t 40))])))
  (.reg [.r 23 (.mv (.t 4)),
     .r 24 (.bin .add (.t 23) (.c (.d (.int .i64 1)))),
     .r 4 (.mv (.t 24))])))
def sc_interchangeref7_CheckReply_B1 : SC := .block 0 (.loop sc_interchangeref7_CheckReply_L1)
/-- interchange/interchangeref7.CheckReply -/
def sc_interchangeref7_CheckReply : SC :=
  (.seq (.reg [.r 1 (.boxI (.t 0)),
     .r 2 (.mv (.c (.d (.int .i64 0))))])
  (.seq (.seq (.reg [.r 6 (.fld 0 (.t 1)),
     .o 7 (.ld1 (.t 6)),
     .c 8 (.f 65) [.t 7],
     .r 9 (.not (.t 8))])
  (.cond (.t 9)
    (.seq (.reg [.r 2 (.mv (.c (.d (.int .i64 3))))])
    .ret)
    .skip))
  (.seq (.seq (.reg [.r 10 (.fld 1 (.t 1)),
     .o 11 (.ld1 (.t 10)),
     .c 12 (.f 66) [.t 11],
     .r 13 (.not (.t 12))])
  (.cond (.t 13)
    (.seq (.reg [.r 2 (.mv (.c (.d (.int .i64 4))))])
    .ret)
    .skip))
  (.seq (.seq (.reg [.r 14 (.fld 2 (.t 1)),
     .o 15 (.ld1 (.t 14)),
     .r 16 (.len (.t 15)),
     .r 17 (.bin .gtr (.t 16) (.c (.d (.int .i64 50))))])
  (.cond (.t 17)
    (.seq (.reg [.r 2 (.mv (.c (.d (.int .i64 2))))])
    .ret)
    .skip))
  (.seq (.reg [.r 3 (.mv (.c (.d (.int .i64 0))))])
  (.seq (.seq (.reg [.r 4 (.mv (.c (.d (.int .i64 0))))])
  sc_interchangeref7_CheckReply_B1)
  (.seq (.seq (.reg [.r 41 (.mv (.t 3)),
     .r 42 (.bin .gtr (.t 41) (.c (.d (.int .i64 200))))])
  (.cond (.t 42)
    (.seq (.reg [.r 2 (.mv (.c (.d (.int .i64 2))))])
    .ret)
    .skip))
  (.seq (.seq (.regD [.r 43 (.fld 1 (.t 1)),
     .r 44 (.ld1 (.t 43)),
     .r 45 (.ldA 3 (.t 1)),
     .c 46 (.f 68) [.t 45],
     .r 47 (.bin .neq (.t 44) (.t 46))])
  (.cond (.t 47)
    (.seq (.reg [.r 2 (.mv (.c (.d (.int .i64 12))))])
    .ret)
    .skip))
  (.seq (.reg [.r 2 (.mv (.c (.d (.int .i64 0))))])
  .ret)))))))))
theorem fit_interchangeref7_CheckReply : fits Tryd.prog 29 Tryd.f29 sc_interchangeref7_CheckReply [.t 2] 1 = true := by kernel_rfl

/-- interchange/reply.Book -/
def sc_reply_Book : SC :=
  (.seq (.reg [.r 2 (.mv (.c (.nils))),
     .r 3 (.mv (.c (.nils))),
     .r 4 (.mv (.c (.d (.int .i64 0))))])
  (.seq (.seq (.reg [.r 8 (.mv (.t 0)),
     .c 9 (.f 51) [.t 8],
     .r 5 (.mv (.t 9))])
  (.seq (.reg [.r 10 (.mv (.t 5)),
     .r 11 (.bin .neq (.t 10) (.c (.d (.int .i64 0))))])
  (.cond (.t 11)
    (.seq (.reg [.r 12 (.mv (.t 5)),
       .r 2 (.mv (.c (.nils))),
       .r 3 (.mv (.c (.nils))),
       .r 4 (.mv (.t 12))])
    .ret)
    .skip)))
  (.seq (.reg [.r 14 (.mv (.t 0)),
     .c 15 (.f 54) [.t 14],
     .r 13 (.mv (.t 15)),
     .r 16 (.ext (.t 13) 0),
     .r 17 (.ext (.t 13) 1),
     .r 6 (.mv (.t 16)),
     .r 7 (.mv (.t 17))])
  (.seq (.reg [.r 18 (.mv (.t 6)),
     .r 19 (.mv (.t 7)),
     .r 2 (.mv (.t 18)),
     .r 3 (.mv (.t 19)),
     .r 4 (.mv (.c (.d (.int .i64 0))))])
  .ret))))
theorem fit_reply_Book : fits Tryd.prog 23 Tryd.f23 sc_reply_Book [.t 2, .t 3, .t 4] 1 = true := by kernel_rfl

def sc_reply_StandingAt_L1 : SC :=
  (.seq (.reg [.r 26 (.bin .lss (.t 25) (.t 24))])
  (.seq (.cond (.t 26)
    .skip
    (.exit 0))
  (.seq (.block 1 (.seq (.reg [.r 27 (.idx 5 (.t 23) (.t 25)),
       .o 28 (.ldA 5 (.t 27)),
       .w 9 (.boxM (.c (.agg [.d (.str []), .d (.int .i64 0), .d (.int .i64 0), .d (.int .i64 0), .d (.int .i64 0)]))),
       .w 0 (.st 5 (.t 9) (.t 28))])
    (.seq (.seq (.reg [.o 29 (.ldA 5 (.t 9)),
       .r 30 (.mv (.t 1)),
       .c 31 (.f 71) [.t 29, .t 30]])
    (.block 2 (.seq (.reg [.r 33 (.bin .eql (.t 31) (.c (.d (.int .i64 1)))),
         .r 32 (.mv (.t 33))])
      (.cond (.t 32)
        (.reg [.r 34 (.fld 0 (.t 7)),
           .o 35 (.ld1 (.t 34)),
           .r 36 (.bin .add (.t 35) (.c (.d (.int .i64 1)))),
           .r 37 (.fld 0 (.t 7)),
           .w 0 (.st 1 (.t 37) (.t 36))])
        (.seq (.reg [.r 39 (.bin .eql (.t 31) (.c (.d (.int .i64 2)))),
           .r 38 (.mv (.t 39))])
        (.cond (.t 38)
          (.reg [.r 40 (.fld 1 (.t 7)),
             .o 41 (.ld1 (.t 40)),
             .r 42 (.bin .add (.t 41) (.c (.d (.int .i64 1)))),
             .r 43 (.fld 1 (.t 7)),
             .w 0 (.st 1 (.t 43) (.t 42))])
          .skip))))))
    (.seq (.seq (.reg [.r 44 (.fld 4 (.t 9)),
       .o 45 (.ld1 (.t 44))])
    (.block 3 (.seq (.reg [.r 47 (.bin .eql (.t 45) (.c (.d (.int .i64 1)))),
         .r 46 (.mv (.t 47))])
      (.cond (.t 46)
        (.reg [.r 48 (.fld 2 (.t 7)),
           .o 49 (.ld1 (.t 48)),
           .r 50 (.bin .add (.t 49) (.c (.d (.int .i64 1)))),
           .r 51 (.fld 2 (.t 7)),
           .w 0 (.st 1 (.t 51) (.t 50))])
        (.seq (.reg [.r 53 (.bin .eql (.t 45) (.c (.d (.int .i64 2)))),
           .r 52 (.mv (.t 53))])
        (.cond (.t 52)
          (.reg [.r 54 (.fld 3 (.t 7)),
             .o 55 (.ld1 (.t 54)),
             .r 56 (.bin .add (.t 55) (.c (.d (.int .i64 1)))),
             .r 57 (.fld 3 (.t 7)),
             .w 0 (.st 1 (.t 57) (.t 56))])
          (.seq (.reg [.r 59 (.bin .eql (.t 45) (.c (.d (.int .i64 3)))),
             .r 58 (.mv (.t 59))])
          (.cond (.t 58)
            (.reg [.r 60 (.fld 4 (.t 7)),
               .o 61 (.ld1 (.t 60)),
               .r 62 (.bin .add (.t 61) (.c (.d (.int .i64 1)))),
               .r 63 (.fld 4 (.t 7)),
               .w 0 (.st 1 (.t 63) (.t 62))])
            .skip))))))))
    (.seq (.reg [.r 64 (.fld 3 (.t 9)),
       .o 65 (.ld1 (.t 64)),
       .r 66 (.fld 2 (.t 9)),
       .o 67 (.ld1 (.t 66)),
       .r 68 (.bin .gtr (.t 65) (.t 67))])
    (.cond (.t 68)
      (.reg [.r 69 (.fld 5 (.t 7)),
         .o 70 (.ld1 (.t 69)),
         .r 71 (.bin .add (.t 70) (.c (.d (.int .i64 1)))),
         .r 72 (.fld 5 (.t 7)),
         .w 0 (.st 1 (.t 72) (.t 71))])
      .skip))))))
  (.reg [.r 73 (.bin .add (.t 25) (.c (.d (.int .i64 1)))),
     .r 25 (.mv (.t 73))]))))
def sc_reply_StandingAt_B1 : SC := .block 0 (.loop sc_reply_StandingAt_L1)
/-- interchange/reply.StandingAt -/
def sc_reply_StandingAt : SC :=
  (.seq (.reg [.w 4 (.boxM (.c (.agg [.d (.int .i64 0), .d (.int .i64 0), .d (.int .i64 0), .d (.int .i64 0), .d (.int .i64 0), .d (.int .i64 0)]))),
     .r 5 (.mv (.c (.d (.int .i64 0))))])
  (.seq (.seq (.reg [.r 10 (.mv (.t 0)),
     .c 11 (.f 51) [.t 10],
     .r 6 (.mv (.t 11))])
  (.seq (.reg [.r 12 (.mv (.t 6)),
     .r 13 (.bin .neq (.t 12) (.c (.d (.int .i64 0))))])
  (.cond (.t 13)
    (.seq (.reg [.r 14 (.build [.d (.int .i64 0), .d (.int .i64 0), .d (.int .i64 0), .d (.int .i64 0), .d (.int .i64 0), .d (.int .i64 0)] []),
       .r 15 (.mv (.t 6)),
       .w 0 (.st 6 (.t 4) (.t 14)),
       .r 5 (.mv (.t 15))])
    .ret)
    .skip)))
  (.seq (.seq (.reg [.r 16 (.mv (.t 1)),
     .c 17 (.f 52) [.t 16],
     .r 18 (.not (.t 17))])
  (.cond (.t 18)
    (.seq (.reg [.r 19 (.build [.d (.int .i64 0), .d (.int .i64 0), .d (.int .i64 0), .d (.int .i64 0), .d (.int .i64 0), .d (.int .i64 0)] []),
       .w 0 (.st 6 (.t 4) (.t 19)),
       .r 5 (.mv (.c (.d (.int .i64 1))))])
    .ret)
    .skip))
  (.seq (.reg [.r 20 (.build [.d (.int .i64 0), .d (.int .i64 0), .d (.int .i64 0), .d (.int .i64 0), .d (.int .i64 0), .d (.int .i64 0)] []),
     .w 7 (.boxM (.c (.agg [.d (.int .i64 0), .d (.int .i64 0), .d (.int .i64 0), .d (.int .i64 0), .d (.int .i64 0), .d (.int .i64 0)]))),
     .w 0 (.st 6 (.t 7) (.t 20))])
  (.seq (.seq (.reg [.r 21 (.mv (.t 0)),
     .r 22 (.mv (.t 1)),
     .c 23 (.f 69) [.t 21, .t 22],
     .r 24 (.len (.t 23)),
     .r 25 (.mv (.c (.d (.int .i64 0))))])
  sc_reply_StandingAt_B1)
  (.seq (.reg [.o 74 (.ldA 6 (.t 7)),
     .w 0 (.st 6 (.t 4) (.t 74)),
     .r 5 (.mv (.c (.d (.int .i64 0))))])
  .ret))))))
theorem fit_reply_StandingAt : fits Tryd.prog 32 Tryd.f32 sc_reply_StandingAt [.cell 4 6, .t 5] 2 = true := by kernel_rfl

set_option maxRecDepth 100000 in
set_option maxHeartbeats 40000000 in
noncomputable def sims_G4_4_0 : (∀ (x0 : Tapi_GroupReply) (x1 : List Tapi_GroupReply), {m : Option (Int) // ∀ r, m = some r → PureSpec Tryd.prog 63 [.agg (rTapi_GroupReply x0), .slice (List.map rTapi_GroupReply x1)] (.int .i64 r)}) × (∀ (x0 : Tapi_Reply), {m : Option (Int) // ∀ r, m = some r → PureSpec Tryd.prog 29 [.agg (rTapi_Reply x0)] (.int .i64 r)}) × (∀ (x0 : List Tapi_BookEvent), {m : Option ((List Tapi_Sending) × (List Int) × Int) // ∀ r, m = some r → PureSpec Tryd.prog 23 [.slice (List.map rTapi_BookEvent x0)] (.tup [.slice (List.map rTapi_Sending r.1), .slice (List.map rowI r.2.1), .int .i64 r.2.2])}) × (∀ (x0 : List Tapi_BookEvent) (x1 : Int), {m : Option (Tapi_Standing × Int) // ∀ r, m = some r → PureSpec Tryd.prog 32 [.slice (List.map rTapi_BookEvent x0), .int .i64 x1] (.tup [.agg (rTapi_Standing r.1), .int .i64 r.2])}) := by
  refine ⟨?g0, ?g1, ?g2, ?g3⟩
  case' g0 => (intro x0 x1; apply Subtype.mk; intro r hm; apply pure_walk Tryd.func63 fit_reply_groupFault; unfold sc_reply_groupFault)
  case' g1 => (intro x0; apply Subtype.mk; intro r hm; apply pure_walk Tryd.func29 fit_interchangeref7_CheckReply; unfold sc_interchangeref7_CheckReply)
  case' g2 => (intro x0; apply Subtype.mk; intro r hm; apply pure_walk Tryd.func23 fit_reply_Book; unfold sc_reply_Book)
  case' g3 => (intro x0 x1; apply Subtype.mk; intro r hm; apply pure_walk Tryd.func32 fit_reply_StandingAt; unfold sc_reply_StandingAt)
  all_goals (repeat' (first | with_reducible refine W_seq ?_ | with_reducible refine W_reg ?_ | with_reducible refine W_regD ?_ | with_reducible refine W_block ?_ | with_reducible refine W_skip ?_ | with_reducible refine W_ret ?_ | with_reducible refine W_exit ?_ | with_reducible refine O_nil ?_ | with_reducible refine K_seq ?_ | with_reducible refine K_seqE ?_ | with_reducible refine K_seqR ?_ | with_reducible refine K_block ?_ | with_reducible refine K_blockR ?_ | with_reducible refine K_blockE ?_ | ((with_reducible apply K_blockN); decide) | with_reducible refine O_o2r ?_ | ((with_reducible apply O_idxr hm); (iterate 2 (simp only [push_cast, seval]; rfl)); (intro _; rfl); intro e hm) | ((with_reducible apply O_idxVr hm); (iterate 3 (simp only [push_cast, seval]; rfl)); intro e hm) | ((with_reducible apply O_slcr hm); (iterate 3 (simp only [push_cast, seval]; rfl)); (intro _; rfl); intro e hm) | ((with_reducible apply O_r); (simp only [push_cast, seval]; rfl); (first | exact trivial | omega)) | ((with_reducible apply O_ldV1r hm); (iterate 2 (simp only [push_cast, seval]; rfl)); (intro _; rfl); intro e hm) | ((with_reducible apply O_strr hm); (iterate 2 (simp only [push_cast, seval]; rfl)); intro hm) | ((with_reducible apply W_condT); (focus (simp only [push_cast, seval]; done))) | ((with_reducible apply W_condF); (focus (simp only [push_cast, seval]; done))) | ((with_reducible apply O_cS hm); (simp only [push_cast, seval]; rfl); (focus (first | exact spec_kit_IsRef _ | exact spec_reply_isVerdict _ | exact spec_slices_ContainsFunc_interchange_api_GroupReply_interchange_api_GroupReply _ _ _ _ (fun a0 r h => spec_reply_groupFault_1 a0 _ r h) | exact spec_slices_ContainsFunc_interchange_api_GroupReply_interchange_api_GroupReply _ _ _ _ (fun a0 r h => spec_kit_IsRef a0 r h) | exact spec_slices_ContainsFunc_interchange_api_GroupReply_interchange_api_GroupReply _ _ _ _ (fun a0 r h => spec_reply_isVerdict a0 r h) | exact spec_slices_ContainsFunc_interchange_api_GroupReply_interchange_api_GroupReply _ _ _ _ (fun a0 a1 r h => spec_reply_messageFault a0 a1 r h) | exact spec_slices_ContainsFunc_interchange_api_GroupReply_interchange_api_GroupReply _ _ _ _ (fun a0 r h => spec_reply_verdictOfGroup a0 r h) | exact spec_reply_messageFault _ _ | exact spec_reply_verdictOfGroup _ | exact spec_reply_groupFault_1 _ _ | exact spec_interchangeref2_IsReference _ | exact spec_interchangeref7_isVerdict _ | exact spec_interchangeref7_checkGroup _ _ | exact spec_interchangeref7_OfAll _ | exact spec_reply_CheckBook _ | exact spec_reply_book _ | exact spec_kit_IsMoment _ | exact spec_reply_at _ _ | exact spec_reply_stateOf _ _)); intro x hm) | ((with_reducible apply O_cF hm); (simp only [push_cast, seval]; rfl); (first | apply spec_kit_IsRef _ | apply spec_reply_isVerdict _ | apply spec_slices_ContainsFunc_interchange_api_GroupReply_interchange_api_GroupReply _ _ _ _ (fun a0 r h => spec_reply_groupFault_1 a0 _ r h) | apply spec_slices_ContainsFunc_interchange_api_GroupReply_interchange_api_GroupReply _ _ _ _ (fun a0 r h => spec_kit_IsRef a0 r h) | apply spec_slices_ContainsFunc_interchange_api_GroupReply_interchange_api_GroupReply _ _ _ _ (fun a0 r h => spec_reply_isVerdict a0 r h) | apply spec_slices_ContainsFunc_interchange_api_GroupReply_interchange_api_GroupReply _ _ _ _ (fun a0 a1 r h => spec_reply_messageFault a0 a1 r h) | apply spec_slices_ContainsFunc_interchange_api_GroupReply_interchange_api_GroupReply _ _ _ _ (fun a0 r h => spec_reply_verdictOfGroup a0 r h) | apply spec_reply_messageFault _ _ | apply spec_reply_verdictOfGroup _ | apply spec_reply_groupFault_1 _ _ | apply spec_interchangeref2_IsReference _ | apply spec_interchangeref7_isVerdict _ | apply spec_interchangeref7_checkGroup _ _ | apply spec_interchangeref7_OfAll _ | apply spec_reply_CheckBook _ | apply spec_reply_book _ | apply spec_kit_IsMoment _ | apply spec_reply_at _ _ | apply spec_reply_stateOf _ _); (any_goals ((repeat' (first | rfl | (with_reducible first | apply fT_Tapi_Element | apply fT_Tapi_Marks | apply fT_Tapi_Segment | apply fT_Tapi_GroupReply | apply fT_Tapi_MessageReply | apply fT_Tapi_Flaw | apply fT_Tapi_Spot | apply fT_Tapi_Reply | apply fT_Tapi_BookEvent | apply fT_Tapi_Sending | apply fT_Tapi_Standing | apply f_optN | apply f_optS | apply f_some | apply f_tup | apply f_agg | apply f_ptr | apply f_fn | apply dv_slice | apply sv_d | apply f_cons | apply fold_nil | apply fold_cons | apply fold_app | apply f_rowI | apply f_rowY | apply f_rowS | apply f_rowB | apply f_rowL) | (with_reducible apply f_byte; decide))); done)); intro x hm) | ((with_reducible apply O_cvS hm); (iterate 2 (simp only [push_cast, seval]; rfl)); (focus (first | exact spec_kit_IsRef _ | exact spec_reply_isVerdict _ | exact spec_slices_ContainsFunc_interchange_api_GroupReply_interchange_api_GroupReply _ _ _ _ (fun a0 r h => spec_reply_groupFault_1 a0 _ r h) | exact spec_slices_ContainsFunc_interchange_api_GroupReply_interchange_api_GroupReply _ _ _ _ (fun a0 r h => spec_kit_IsRef a0 r h) | exact spec_slices_ContainsFunc_interchange_api_GroupReply_interchange_api_GroupReply _ _ _ _ (fun a0 r h => spec_reply_isVerdict a0 r h) | exact spec_slices_ContainsFunc_interchange_api_GroupReply_interchange_api_GroupReply _ _ _ _ (fun a0 a1 r h => spec_reply_messageFault a0 a1 r h) | exact spec_slices_ContainsFunc_interchange_api_GroupReply_interchange_api_GroupReply _ _ _ _ (fun a0 r h => spec_reply_verdictOfGroup a0 r h) | exact spec_reply_messageFault _ _ | exact spec_reply_verdictOfGroup _ | exact spec_reply_groupFault_1 _ _ | exact spec_interchangeref2_IsReference _ | exact spec_interchangeref7_isVerdict _ | exact spec_interchangeref7_checkGroup _ _ | exact spec_interchangeref7_OfAll _ | exact spec_reply_CheckBook _ | exact spec_reply_book _ | exact spec_kit_IsMoment _ | exact spec_reply_at _ _ | exact spec_reply_stateOf _ _)); intro x hm) | ((with_reducible apply O_w); (simp only [push_cast, seval]; rfl); (first | exact trivial | omega)) | ((with_reducible apply S_condB hm); (simp only [push_cast, seval]; rfl); intro hm; rotate_left; intro hm) | ((with_reducible apply K_end3 hm); (focus (simp only [resOf, resL, RV.get, push_cast, seval]; rfl)); (focus (first | (dsimp only; done) | (dsimp only; rfl) | rfl)); (focus ((repeat' (first | rfl | (with_reducible first | apply fT_Tapi_Element | apply fT_Tapi_Marks | apply fT_Tapi_Segment | apply fT_Tapi_GroupReply | apply fT_Tapi_MessageReply | apply fT_Tapi_Flaw | apply fT_Tapi_Spot | apply fT_Tapi_Reply | apply fT_Tapi_BookEvent | apply fT_Tapi_Sending | apply fT_Tapi_Standing | apply f_optN | apply f_optS | apply f_some | apply f_tup | apply f_agg | apply f_ptr | apply f_fn | apply dv_slice | apply sv_d | apply f_cons | apply fold_nil | apply fold_cons | apply fold_app | apply f_rowI | apply f_rowY | apply f_rowS | apply f_rowB | apply f_rowL) | (with_reducible apply f_byte; decide))); done))) | ((with_reducible apply K_end2 hm); (focus (simp only [resOf, resL, RV.get, push_cast, seval]; rfl)); (focus (first | (dsimp only; done) | (dsimp only; rfl) | rfl)); (focus ((repeat' (first | rfl | (with_reducible first | apply fT_Tapi_Element | apply fT_Tapi_Marks | apply fT_Tapi_Segment | apply fT_Tapi_GroupReply | apply fT_Tapi_MessageReply | apply fT_Tapi_Flaw | apply fT_Tapi_Spot | apply fT_Tapi_Reply | apply fT_Tapi_BookEvent | apply fT_Tapi_Sending | apply fT_Tapi_Standing | apply f_optN | apply f_optS | apply f_some | apply f_tup | apply f_agg | apply f_ptr | apply f_fn | apply dv_slice | apply sv_d | apply f_cons | apply fold_nil | apply fold_cons | apply fold_app | apply f_rowI | apply f_rowY | apply f_rowS | apply f_rowB | apply f_rowL) | (with_reducible apply f_byte; decide))); done))) | ((with_reducible apply K_endS hm); (focus (simp only [resOf, resL, RV.get, push_cast, seval]; rfl)); (focus ((repeat' (first | rfl | (with_reducible first | apply fT_Tapi_Element | apply fT_Tapi_Marks | apply fT_Tapi_Segment | apply fT_Tapi_GroupReply | apply fT_Tapi_MessageReply | apply fT_Tapi_Flaw | apply fT_Tapi_Spot | apply fT_Tapi_Reply | apply fT_Tapi_BookEvent | apply fT_Tapi_Sending | apply fT_Tapi_Standing | apply f_optN | apply f_optS | apply f_some | apply f_tup | apply f_agg | apply f_ptr | apply f_fn | apply dv_slice | apply sv_d | apply f_cons | apply fold_nil | apply fold_cons | apply fold_app | apply f_rowI | apply f_rowY | apply f_rowS | apply f_rowB | apply f_rowL) | (with_reducible apply f_byte; decide))); done))) | ((with_reducible apply K_leave hm); intro r hm) | ((with_reducible apply K_leaveR hm); intro r hm) | ((apply S_loopY (b := 1) (X := sc_reply_groupFault_B1) (x := sc_reply_groupFault_L1) rfl (fun (c : SV × SV × SV) (s : Int) => st [(2, c.1), (23, c.2.1), (24, c.2.2), (25, .d (.int .i64 s))] []) (c := (_, _, _)) (s0 := _) hm); (focus (first | (dsimp only; done) | (dsimp only; rfl) | rfl)); (with_reducible refine Then.mk ?_ ?_)) | ((apply S_loopY (b := 0) (X := sc_interchangeref7_CheckReply_B1) (x := sc_interchangeref7_CheckReply_L1) rfl (fun (c : SV) (s : Int × Int) => st [(1, c), (3, .d (.int .i64 s.1)), (4, .d (.int .i64 s.2))] []) (c := _) (s0 := (_, _)) hm); (focus (first | (dsimp only; done) | (dsimp only; rfl) | rfl)); (with_reducible refine Then.mk ?_ ?_)) | ((apply S_loopY (b := 0) (X := sc_reply_StandingAt_B1) (x := sc_reply_StandingAt_L1) rfl (fun (c : SV × Ch × SV × SV) (s : Tapi_Standing × Int) => st [(1, c.1), (4, .ref 4 0), (7, .ref 7 0), (23, c.2.2.1), (24, c.2.2.2), (25, .d (.int .i64 s.2))] [(4, c.2.1), (7, .box (dR (rTapi_Standing s.1)))]) (c := (_, _, _, _)) (s0 := (_, _)) hm); (focus (first | (dsimp only; done) | (dsimp only; rfl) | rfl)); (with_reducible refine Then.mk ?_ ?_)) | ((apply K_next (s' := (_, _)) hm); (focus (first | (dsimp only; done) | (dsimp only; rfl) | rfl))) | ((apply K_brk (s' := (_, _)) hm); (focus (first | (dsimp only; done) | (dsimp only; rfl) | rfl))) | ((apply K_next (s' := _) hm); (focus (first | (dsimp only; done) | (dsimp only; rfl) | rfl))) | ((apply K_brk (s' := _) hm); (focus (first | (dsimp only; done) | (dsimp only; rfl) | rfl))) | (((with_reducible apply K_brkN hm); (focus decide); intro r hm)) | (((with_reducible apply K_brkR hm); intro r hm)) | (((with_reducible apply LoopB.of); (focus (first | (dsimp only; done) | (dsimp only; rfl) | rfl)); (focus ((intro _; repeat' (first | with_reducible exact impC_end | with_reducible exact impC_endF | with_reducible refine impC_seq ?_ | with_reducible refine impC_block ?_ | ((with_reducible refine impC_rnd ?_); intro _) | ((with_reducible refine impC_brk ?_); intro _))))); (intro s o hm; first | unfold sc_reply_groupFault_L1 | unfold sc_interchangeref7_CheckReply_L1 | unfold sc_reply_StandingAt_L1); rotate_left; intro s hm)) | (((apply imp_stT; (repeat' (first | with_reducible exact keepT_nil | with_reducible exact keepC_nil | with_reducible apply keepT_cons | with_reducible apply keepC_cons | ((with_reducible apply svle_eq); (focus (first | (simp only [push_cast, seval]; rfl) | rfl)); (focus ((repeat' (first | rfl | (with_reducible first | apply fT_Tapi_Element | apply fT_Tapi_Marks | apply fT_Tapi_Segment | apply fT_Tapi_GroupReply | apply fT_Tapi_MessageReply | apply fT_Tapi_Flaw | apply fT_Tapi_Spot | apply fT_Tapi_Reply | apply fT_Tapi_BookEvent | apply fT_Tapi_Sending | apply fT_Tapi_Standing | apply f_optN | apply f_optS | apply f_some | apply f_tup | apply f_agg | apply f_ptr | apply f_fn | apply dv_slice | apply sv_d | apply f_cons | apply fold_nil | apply fold_cons | apply fold_app | apply f_rowI | apply f_rowY | apply f_rowS | apply f_rowB | apply f_rowL) | (with_reducible apply f_byte; decide))); done))) | ((with_reducible apply svle_td); (focus (first | (simp only [push_cast, seval]; rfl) | rfl)); (focus (first | (simp only [push_cast, seval]; rfl) | rfl)); (focus ((repeat' (first | rfl | (with_reducible first | apply fT_Tapi_Element | apply fT_Tapi_Marks | apply fT_Tapi_Segment | apply fT_Tapi_GroupReply | apply fT_Tapi_MessageReply | apply fT_Tapi_Flaw | apply fT_Tapi_Spot | apply fT_Tapi_Reply | apply fT_Tapi_BookEvent | apply fT_Tapi_Sending | apply fT_Tapi_Standing | apply f_optN | apply f_optS | apply f_some | apply f_tup | apply f_agg | apply f_ptr | apply f_fn | apply dv_slice | apply sv_d | apply f_cons | apply fold_nil | apply fold_cons | apply fold_app | apply f_rowI | apply f_rowY | apply f_rowS | apply f_rowB | apply f_rowL) | (with_reducible apply f_byte; decide))); done))) | ((with_reducible apply chle_eq); (focus (first | (simp only [push_cast, seval]; rfl) | rfl)); (first | with_reducible exact chle_rfl rfl | with_reducible exact chle_map0 | with_reducible apply chle_vec | with_reducible apply chle_box)) | (with_reducible first | apply cT_Tapi_Element | apply cT_Tapi_Marks | apply cT_Tapi_Segment | apply cT_Tapi_GroupReply | apply cT_Tapi_MessageReply | apply cT_Tapi_Flaw | apply cT_Tapi_Spot | apply cT_Tapi_Reply | apply cT_Tapi_BookEvent | apply cT_Tapi_Sending | apply cT_Tapi_Standing | apply r_shS | apply r_shI | apply r_rflO | apply r_oneO | apply r_appO | apply r_nilO | apply c_ownN | apply c_ownL | apply vc_rfl | apply vc_nil | apply vc_cons | apply r_rfl | apply r_rows | apply r_nil | apply r_app | apply r_cons | apply c_rowI | apply c_rowY | apply c_rowS | apply c_rowB | apply c_rowL))); done)))))
noncomputable def m_reply_groupFault (x0 : Tapi_GroupReply) (x1 : List Tapi_GroupReply) : Option (Int) := (sims_G4_4_0.1 x0 x1).1
theorem spec_reply_groupFault (x0 : Tapi_GroupReply) (x1 : List Tapi_GroupReply) : ∀ r, m_reply_groupFault x0 x1 = some r → PureSpec Tryd.prog 63 [.agg (rTapi_GroupReply x0), .slice (List.map rTapi_GroupReply x1)] (.int .i64 r) := (sims_G4_4_0.1 x0 x1).2
noncomputable def m_interchangeref7_CheckReply (x0 : Tapi_Reply) : Option (Int) := (sims_G4_4_0.2.1 x0).1
theorem spec_interchangeref7_CheckReply (x0 : Tapi_Reply) : ∀ r, m_interchangeref7_CheckReply x0 = some r → PureSpec Tryd.prog 29 [.agg (rTapi_Reply x0)] (.int .i64 r) := (sims_G4_4_0.2.1 x0).2
noncomputable def m_reply_Book (x0 : List Tapi_BookEvent) : Option ((List Tapi_Sending) × (List Int) × Int) := (sims_G4_4_0.2.2.1 x0).1
theorem spec_reply_Book (x0 : List Tapi_BookEvent) : ∀ r, m_reply_Book x0 = some r → PureSpec Tryd.prog 23 [.slice (List.map rTapi_BookEvent x0)] (.tup [.slice (List.map rTapi_Sending r.1), .slice (List.map rowI r.2.1), .int .i64 r.2.2]) := (sims_G4_4_0.2.2.1 x0).2
noncomputable def m_reply_StandingAt (x0 : List Tapi_BookEvent) (x1 : Int) : Option (Tapi_Standing × Int) := (sims_G4_4_0.2.2.2 x0 x1).1
theorem spec_reply_StandingAt (x0 : List Tapi_BookEvent) (x1 : Int) : ∀ r, m_reply_StandingAt x0 x1 = some r → PureSpec Tryd.prog 32 [.slice (List.map rTapi_BookEvent x0), .int .i64 x1] (.tup [.agg (rTapi_Standing r.1), .int .i64 r.2]) := (sims_G4_4_0.2.2.2 x0 x1).2

def sc_reply_CheckReply_L1 : SC :=
  (.seq (.reg [.r 26 (.bin .lss (.t 25) (.t 24))])
  (.seq (.cond (.t 26)
    .skip
    (.exit 1))
  (.seq (.block 2 (.seq (.reg [.r 27 (.mv (.t 25)),
       .r 28 (.idx 3 (.t 23) (.t 25)),
       .o 29 (.ldA 3 (.t 28)),
       .w 5 (.boxM (.c (.agg [.d (.str []), .d (.int .i64 0), .nils]))),
       .r 4 (.mv (.t 27)),
       .w 0 (.st 3 (.t 5) (.t 29))])
    (.seq (.seq (.regD [.r 30 (.ldA 3 (.t 5)),
       .r 31 (.fld 2 (.t 1)),
       .r 32 (.ld1 (.t 31)),
       .r 33 (.mv (.t 4)),
       .r 34 (.slc 3 (.t 32) none (some (.t 33))),
       .c 35 (.f 63) [.t 30, .t 34],
       .r 6 (.mv (.t 35))])
    (.seq (.reg [.r 36 (.mv (.t 6)),
       .r 37 (.bin .neq (.t 36) (.c (.d (.int .i64 0))))])
    (.cond (.t 37)
      (.seq (.reg [.r 38 (.mv (.t 6)),
         .r 2 (.mv (.t 38))])
      .ret)
      .skip)))
    (.reg [.r 39 (.mv (.t 3)),
       .r 40 (.fld 2 (.t 5)),
       .o 41 (.ld1 (.t 40)),
       .r 42 (.len (.t 41)),
       .r 43 (.bin .add (.t 39) (.t 42)),
       .r 3 (.mv (.t 43))]))))
  (.reg [.r 44 (.bin .add (.t 25) (.c (.d (.int .i64 1)))),
     .r 25 (.mv (.t 44))]))))
def sc_reply_CheckReply_B1 : SC := .block 1 (.loop sc_reply_CheckReply_L1)
/-- interchange/reply.CheckReply -/
def sc_reply_CheckReply : SC :=
  (.seq (.reg [.r 1 (.boxI (.t 0)),
     .r 2 (.mv (.c (.d (.int .i64 0))))])
  (.seq (.block 0 (.seq (.reg [.r 8 (.fld 0 (.t 1)),
       .o 9 (.ld1 (.t 8)),
       .c 10 (.f 61) [.t 9],
       .r 11 (.not (.t 10)),
       .r 7 (.mv (.t 11))])
    (.cond (.t 7)
      (.seq (.reg [.r 2 (.mv (.c (.d (.int .i64 3))))])
      .ret)
      (.seq (.reg [.r 13 (.fld 1 (.t 1)),
         .o 14 (.ld1 (.t 13)),
         .c 15 (.f 62) [.t 14],
         .r 16 (.not (.t 15)),
         .r 12 (.mv (.t 16))])
      (.cond (.t 12)
        (.seq (.reg [.r 2 (.mv (.c (.d (.int .i64 4))))])
        .ret)
        (.seq (.reg [.r 18 (.fld 2 (.t 1)),
           .o 19 (.ld1 (.t 18)),
           .r 20 (.len (.t 19)),
           .r 21 (.bin .gtr (.t 20) (.c (.d (.int .i64 50)))),
           .r 17 (.mv (.t 21))])
        (.cond (.t 17)
          (.seq (.reg [.r 2 (.mv (.c (.d (.int .i64 2))))])
          .ret)
          .skip)))))))
  (.seq (.reg [.r 3 (.mv (.c (.d (.int .i64 0))))])
  (.seq (.seq (.reg [.r 22 (.fld 2 (.t 1)),
     .o 23 (.ld1 (.t 22)),
     .r 24 (.len (.t 23)),
     .r 25 (.mv (.c (.d (.int .i64 0))))])
  sc_reply_CheckReply_B1)
  (.seq (.seq (.reg [.r 45 (.mv (.t 3)),
     .r 46 (.bin .gtr (.t 45) (.c (.d (.int .i64 200))))])
  (.cond (.t 46)
    (.seq (.reg [.r 2 (.mv (.c (.d (.int .i64 2))))])
    .ret)
    .skip))
  (.seq (.seq (.regD [.r 47 (.ldA 3 (.t 1)),
     .c 48 (.f 64) [.t 47],
     .r 49 (.fld 1 (.t 1)),
     .r 50 (.ld1 (.t 49)),
     .r 51 (.bin .neq (.t 48) (.t 50))])
  (.cond (.t 51)
    (.seq (.reg [.r 2 (.mv (.c (.d (.int .i64 12))))])
    .ret)
    .skip))
  (.seq (.reg [.r 2 (.mv (.c (.d (.int .i64 0))))])
  .ret)))))))
theorem fit_reply_CheckReply : fits Tryd.prog 28 Tryd.f28 sc_reply_CheckReply [.t 2] 1 = true := by kernel_rfl

/-- interchange/interchangelaw7.awake -/
def sc_interchangelaw7_awake : SC :=
  (.seq (.reg [.r 0 (.mv (.c (.d (.bool false))))])
  (.seq (.reg [.r 4 (.build [.d (.int .i64 0), .d (.int .i64 0), .d (.int .i64 0), .d (.str []), .d (.int .i64 0)] [(0, 1, .c (.d (.int .i64 1))), (3, 1, .c (.d (.str [65])))]),
     .r 5 (.bslice 5 [.t 4]),
     .c 6 (.f 32) [.t 5, .c (.d (.int .i64 0))],
     .r 3 (.mv (.t 6)),
     .r 7 (.ext (.t 3) 0),
     .r 8 (.ext (.t 3) 1),
     .w 1 (.boxM (.c (.agg [.d (.int .i64 0), .d (.int .i64 0), .d (.int .i64 0), .d (.int .i64 0), .d (.int .i64 0), .d (.int .i64 0)]))),
     .w 0 (.st 6 (.t 1) (.t 7)),
     .r 2 (.mv (.t 8))])
  (.seq (.reg (.r 9 (.mv (.t 2)) :: .r 10 (.bin .eql (.t 9) (.c (.d (.int .i64 0)))) :: .r 11 (.mv (.t 10)) :: gapp [12, 13, 14] 11 true (.r 12 (.fld 0 (.t 1)) :: .r 13 (.ld1 (.t 12)) :: .r 14 (.bin .eql (.t 13) (.c (.d (.int .i64 1)))) :: []) (.r 15 (.pick (.t 11) (.t 14) (.c (.d (.bool false)))) :: .r 0 (.mv (.t 15)) :: [])))
  .ret)))
theorem fit_interchangelaw7_awake : fits Tryd.prog 22 Tryd.f22 sc_interchangelaw7_awake [.t 0] 0 = true := by kernel_rfl

set_option maxRecDepth 100000 in
set_option maxHeartbeats 40000000 in
noncomputable def sims_G4_5_0 : (∀ (x0 : Tapi_Reply), {m : Option (Int) // ∀ r, m = some r → PureSpec Tryd.prog 28 [.agg (rTapi_Reply x0)] (.int .i64 r)}) × ({m : Option (Bool) // ∀ r, m = some r → PureSpec Tryd.prog 22 [] (.bool r)}) := by
  refine ⟨?g0, ?g1⟩
  case' g0 => (intro x0; apply Subtype.mk; intro r hm; apply pure_walk Tryd.func28 fit_reply_CheckReply; unfold sc_reply_CheckReply)
  case' g1 => (apply Subtype.mk; intro r hm; apply pure_walk Tryd.func22 fit_interchangelaw7_awake; unfold sc_interchangelaw7_awake)
  all_goals (repeat' (first | with_reducible refine W_seq ?_ | with_reducible refine W_reg ?_ | with_reducible refine W_regD ?_ | with_reducible refine W_block ?_ | with_reducible refine W_skip ?_ | with_reducible refine W_ret ?_ | with_reducible refine W_exit ?_ | with_reducible refine O_nil ?_ | with_reducible refine K_seq ?_ | with_reducible refine K_seqE ?_ | with_reducible refine K_seqR ?_ | with_reducible refine K_block ?_ | with_reducible refine K_blockR ?_ | with_reducible refine K_blockE ?_ | ((with_reducible apply K_blockN); decide) | with_reducible refine O_o2r ?_ | ((with_reducible apply O_idxr hm); (iterate 2 (simp only [push_cast, seval]; rfl)); (intro _; rfl); intro e hm) | ((with_reducible apply O_idxVr hm); (iterate 3 (simp only [push_cast, seval]; rfl)); intro e hm) | ((with_reducible apply O_slcr hm); (iterate 3 (simp only [push_cast, seval]; rfl)); (intro _; rfl); intro e hm) | ((with_reducible apply O_idxLr hm (row := rTapi_BookEvent)); (iterate 2 (simp only [push_cast, seval]; rfl)); (focus ((repeat' (first | rfl | (with_reducible first | apply fT_Tapi_Element | apply fT_Tapi_Marks | apply fT_Tapi_Segment | apply fT_Tapi_GroupReply | apply fT_Tapi_MessageReply | apply fT_Tapi_Flaw | apply fT_Tapi_Spot | apply fT_Tapi_Reply | apply fT_Tapi_BookEvent | apply fT_Tapi_Sending | apply fT_Tapi_Standing | apply f_optN | apply f_optS | apply f_some | apply f_tup | apply f_agg | apply f_ptr | apply f_fn | apply dv_slice | apply sv_d | apply f_cons | apply fold_nil | apply fold_cons | apply fold_app | apply f_rowI | apply f_rowY | apply f_rowS | apply f_rowB | apply f_rowL) | (with_reducible apply f_byte; decide))); done)); (simp only [push_cast, seval]; rfl); (intro _; rfl); intro e hm) | ((with_reducible apply O_slcLr hm (row := rTapi_BookEvent)); (iterate 2 (simp only [push_cast, seval]; rfl)); (focus ((repeat' (first | rfl | (with_reducible first | apply fT_Tapi_Element | apply fT_Tapi_Marks | apply fT_Tapi_Segment | apply fT_Tapi_GroupReply | apply fT_Tapi_MessageReply | apply fT_Tapi_Flaw | apply fT_Tapi_Spot | apply fT_Tapi_Reply | apply fT_Tapi_BookEvent | apply fT_Tapi_Sending | apply fT_Tapi_Standing | apply f_optN | apply f_optS | apply f_some | apply f_tup | apply f_agg | apply f_ptr | apply f_fn | apply dv_slice | apply sv_d | apply f_cons | apply fold_nil | apply fold_cons | apply fold_app | apply f_rowI | apply f_rowY | apply f_rowS | apply f_rowB | apply f_rowL) | (with_reducible apply f_byte; decide))); done)); (iterate 2 (simp only [push_cast, seval]; rfl)); intro e hm) | ((with_reducible apply O_r); (simp only [push_cast, seval]; rfl); (first | exact trivial | omega)) | ((with_reducible apply O_ldV1r hm); (iterate 2 (simp only [push_cast, seval]; rfl)); (intro _; rfl); intro e hm) | ((with_reducible apply O_strr hm); (iterate 2 (simp only [push_cast, seval]; rfl)); intro hm) | ((with_reducible apply O_and hm); (simp only [push_cast, seval]; rfl); rfl; intro v hm; rotate_left; intro v g hm) | ((with_reducible apply W_condT); (focus (simp only [push_cast, seval]; done))) | ((with_reducible apply W_condF); (focus (simp only [push_cast, seval]; done))) | ((with_reducible apply O_cS hm); (simp only [push_cast, seval]; rfl); (focus (first | exact spec_kit_IsRef _ | exact spec_reply_isVerdict _ | exact spec_reply_groupFault _ _ | exact spec_reply_verdictOf _ | exact spec_reply_StandingAt _ _)); intro x hm) | ((with_reducible apply O_cF hm); (simp only [push_cast, seval]; rfl); (first | apply spec_kit_IsRef _ | apply spec_reply_isVerdict _ | apply spec_reply_groupFault _ _ | apply spec_reply_verdictOf _ | apply spec_reply_StandingAt _ _); (any_goals ((repeat' (first | rfl | (with_reducible first | apply fT_Tapi_Element | apply fT_Tapi_Marks | apply fT_Tapi_Segment | apply fT_Tapi_GroupReply | apply fT_Tapi_MessageReply | apply fT_Tapi_Flaw | apply fT_Tapi_Spot | apply fT_Tapi_Reply | apply fT_Tapi_BookEvent | apply fT_Tapi_Sending | apply fT_Tapi_Standing | apply f_optN | apply f_optS | apply f_some | apply f_tup | apply f_agg | apply f_ptr | apply f_fn | apply dv_slice | apply sv_d | apply f_cons | apply fold_nil | apply fold_cons | apply fold_app | apply f_rowI | apply f_rowY | apply f_rowS | apply f_rowB | apply f_rowL) | (with_reducible apply f_byte; decide))); done)); intro x hm) | ((with_reducible apply O_w); (simp only [push_cast, seval]; rfl); (first | exact trivial | omega)) | ((with_reducible apply S_condB hm); (simp only [push_cast, seval]; rfl); intro hm; rotate_left; intro hm) | ((with_reducible apply K_endS hm); (focus (simp only [resOf, resL, RV.get, push_cast, seval]; rfl)); (focus ((repeat' (first | rfl | (with_reducible first | apply fT_Tapi_Element | apply fT_Tapi_Marks | apply fT_Tapi_Segment | apply fT_Tapi_GroupReply | apply fT_Tapi_MessageReply | apply fT_Tapi_Flaw | apply fT_Tapi_Spot | apply fT_Tapi_Reply | apply fT_Tapi_BookEvent | apply fT_Tapi_Sending | apply fT_Tapi_Standing | apply f_optN | apply f_optS | apply f_some | apply f_tup | apply f_agg | apply f_ptr | apply f_fn | apply dv_slice | apply sv_d | apply f_cons | apply fold_nil | apply fold_cons | apply fold_app | apply f_rowI | apply f_rowY | apply f_rowS | apply f_rowB | apply f_rowL) | (with_reducible apply f_byte; decide))); done))) | ((with_reducible apply K_bool hm); (simp only [push_cast, seval]; rfl)) | ((with_reducible apply K_leave hm); intro r hm) | ((with_reducible apply K_leaveR hm); intro r hm) | ((apply S_loopY (b := 1) (X := sc_reply_CheckReply_B1) (x := sc_reply_CheckReply_L1) rfl (fun (c : SV × SV × SV) (s : Int × Int) => st [(1, c.1), (3, .d (.int .i64 s.1)), (23, c.2.1), (24, c.2.2), (25, .d (.int .i64 s.2))] []) (c := (_, _, _)) (s0 := (_, _)) hm); (focus (first | (dsimp only; done) | (dsimp only; rfl) | rfl)); (with_reducible refine Then.mk ?_ ?_)) | ((apply K_next (s' := (_, _)) hm); (focus (first | (dsimp only; done) | (dsimp only; rfl) | rfl))) | ((apply K_brk (s' := (_, _)) hm); (focus (first | (dsimp only; done) | (dsimp only; rfl) | rfl))) | (((with_reducible apply K_brkN hm); (focus decide); intro r hm)) | (((with_reducible apply K_brkR hm); intro r hm)) | (((with_reducible apply LoopB.of); (focus (first | (dsimp only; done) | (dsimp only; rfl) | rfl)); (focus ((intro _; repeat' (first | with_reducible exact impC_end | with_reducible exact impC_endF | with_reducible refine impC_seq ?_ | with_reducible refine impC_block ?_ | ((with_reducible refine impC_rnd ?_); intro _) | ((with_reducible refine impC_brk ?_); intro _))))); (intro s o hm; first | unfold sc_reply_CheckReply_L1); rotate_left; intro s hm)) | (((apply imp_stT; (repeat' (first | with_reducible exact keepT_nil | with_reducible exact keepC_nil | with_reducible apply keepT_cons | with_reducible apply keepC_cons | ((with_reducible apply svle_eq); (focus (first | (simp only [push_cast, seval]; rfl) | rfl)); (focus ((repeat' (first | rfl | (with_reducible first | apply fT_Tapi_Element | apply fT_Tapi_Marks | apply fT_Tapi_Segment | apply fT_Tapi_GroupReply | apply fT_Tapi_MessageReply | apply fT_Tapi_Flaw | apply fT_Tapi_Spot | apply fT_Tapi_Reply | apply fT_Tapi_BookEvent | apply fT_Tapi_Sending | apply fT_Tapi_Standing | apply f_optN | apply f_optS | apply f_some | apply f_tup | apply f_agg | apply f_ptr | apply f_fn | apply dv_slice | apply sv_d | apply f_cons | apply fold_nil | apply fold_cons | apply fold_app | apply f_rowI | apply f_rowY | apply f_rowS | apply f_rowB | apply f_rowL) | (with_reducible apply f_byte; decide))); done))) | ((with_reducible apply svle_td); (focus (first | (simp only [push_cast, seval]; rfl) | rfl)); (focus (first | (simp only [push_cast, seval]; rfl) | rfl)); (focus ((repeat' (first | rfl | (with_reducible first | apply fT_Tapi_Element | apply fT_Tapi_Marks | apply fT_Tapi_Segment | apply fT_Tapi_GroupReply | apply fT_Tapi_MessageReply | apply fT_Tapi_Flaw | apply fT_Tapi_Spot | apply fT_Tapi_Reply | apply fT_Tapi_BookEvent | apply fT_Tapi_Sending | apply fT_Tapi_Standing | apply f_optN | apply f_optS | apply f_some | apply f_tup | apply f_agg | apply f_ptr | apply f_fn | apply dv_slice | apply sv_d | apply f_cons | apply fold_nil | apply fold_cons | apply fold_app | apply f_rowI | apply f_rowY | apply f_rowS | apply f_rowB | apply f_rowL) | (with_reducible apply f_byte; decide))); done))) | ((with_reducible apply chle_eq); (focus (first | (simp only [push_cast, seval]; rfl) | rfl)); (first | with_reducible exact chle_rfl rfl | with_reducible exact chle_map0 | with_reducible apply chle_vec | with_reducible apply chle_box)) | (with_reducible first | apply cT_Tapi_Element | apply cT_Tapi_Marks | apply cT_Tapi_Segment | apply cT_Tapi_GroupReply | apply cT_Tapi_MessageReply | apply cT_Tapi_Flaw | apply cT_Tapi_Spot | apply cT_Tapi_Reply | apply cT_Tapi_BookEvent | apply cT_Tapi_Sending | apply cT_Tapi_Standing | apply r_shS | apply r_shI | apply r_rflO | apply r_oneO | apply r_appO | apply r_nilO | apply c_ownN | apply c_ownL | apply vc_rfl | apply vc_nil | apply vc_cons | apply r_rfl | apply r_rows | apply r_nil | apply r_app | apply r_cons | apply c_rowI | apply c_rowY | apply c_rowS | apply c_rowB | apply c_rowL))); done)))))
noncomputable def m_reply_CheckReply (x0 : Tapi_Reply) : Option (Int) := (sims_G4_5_0.1 x0).1
theorem spec_reply_CheckReply (x0 : Tapi_Reply) : ∀ r, m_reply_CheckReply x0 = some r → PureSpec Tryd.prog 28 [.agg (rTapi_Reply x0)] (.int .i64 r) := (sims_G4_5_0.1 x0).2
noncomputable def m_interchangelaw7_awake : Option (Bool) := (sims_G4_5_0.2 ).1
theorem spec_interchangelaw7_awake : ∀ r, m_interchangelaw7_awake  = some r → PureSpec Tryd.prog 22 [] (.bool r) := (sims_G4_5_0.2 ).2

end Go.Proofs.YthailknfgcegoaaDoor

/-
  slices.Clone at some types.
-/
namespace Go.Proofs.YthailknfgcegoaaDoor
open Go.RowKit Go.Shelf Go.Lib
def m_slices_Clone_interchange_api_BookEvent_interchange_api_BookEvent (l : List Tapi_BookEvent) : Option (List Tapi_BookEvent) := if l.length ≤ 137438953472 then some l else none
theorem spec_slices_Clone_interchange_api_BookEvent_interchange_api_BookEvent (l : List Tapi_BookEvent) : ∀ r, m_slices_Clone_interchange_api_BookEvent_interchange_api_BookEvent l = some r → FSpec Tryd.prog 53 (([.slice (List.map rTapi_BookEvent l)] : List DV).map .d) (.own (.sl 57 (List.replicate 5 .sh)) (.slice (List.map rTapi_BookEvent r))) (([.slice (List.map rTapi_BookEvent l)] : List DV).map .d) := by
  intro r hr
  unfold m_slices_Clone_interchange_api_BookEvent_interchange_api_BookEvent at hr
  split at hr
  · rename_i hlen
    cases hr
    exact clone_own Tryd.lays41_53 (i0 := (Tryd.prog.info? 57).get (by kernel_rfl)) (z := ((Tryd.prog.info? 57).get (by kernel_rfl)).zero.get (by kernel_rfl)) (size := 5) (bytes := ((Tryd.prog.info? 57).get (by kernel_rfl)).bytes) (Option.some_get _).symm (Option.some_get _).symm (by kernel_rfl) rfl (by kernel_rfl) (by decide) (of_decide_eq_true (by kernel_rfl)) Tryd.sizeOf57 (by kernel_rfl) (List.map rTapi_BookEvent l) (by intro r hr; obtain ⟨b, _, rfl⟩ := List.mem_map.1 hr; rfl) (by simpa using hlen)
  · cases hr
end Go.Proofs.YthailknfgcegoaaDoor
