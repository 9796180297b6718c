/-
  Texts of mine, one behind the other (SAG4).
-/
import Derived.Test.YthailknfgcegoaaGreatDoorBK1
import Derived.Test.YthailknfgcegoaaGreatDoorSAEngZ
import Derived.Test.YthailknfgcegoaaGreatDoorProg
import Derived.KernelRfl
/-
  Bodies of functions and what they compute, printed by programs of mine (wip/tool/gen.py, sc.py) out of the translation; the kernel holds each against the translation.
-/
namespace Go.Proofs.YthailknfgcegoaaGreatDoor
open Go.RowKit
set_option linter.unusedSimpArgs false
set_option linter.unusedVariables false
structure T6 where
  fElement : Int
  fRepeat : Int
  fPart : Int
  deriving DecidableEq
def r10 (x : T6) : List DV := [.int .i64 x.fElement, .int .i64 x.fRepeat, .int .i64 x.fPart]
attribute [push_cast] r10
theorem ft6 {d0 d1 d2 : DV} {v0 : Int} {v1 : Int} {v2 : Int} (h0 : d0 = .int .i64 v0) (h1 : d1 = .int .i64 v1) (h2 : d2 = .int .i64 v2) : [d0, d1, d2] = r10 ⟨v0, v1, v2⟩ := by unfold r10; simp only [h0, h1, h2, List.cons_append, List.nil_append, List.append_assoc, List.append_nil]
theorem ct6 {d0 d1 d2 : SV} {v0 : Int} {v1 : Int} {v2 : Int} (h0 : svle d0 (.d (.int .i64 v0))) (h1 : svle d1 (.d (.int .i64 v1))) (h2 : svle d2 (.d (.int .i64 v2))) : cellsle [d0, d1, d2] (dR (r10 ⟨v0, v1, v2⟩)) := by have h := (cellsle.append (cellsle.consS h0 cellsle.nil) (cellsle.append (cellsle.consS h1 cellsle.nil) (cellsle.consS h2 cellsle.nil))); simpa only [r10, dR, List.map_append, List.map_cons, List.map_nil, List.cons_append, List.nil_append, List.append_assoc, List.append_nil] using h
theorem et6 {d0 d1 d2 : SV} {v0 : Int} {v1 : Int} {v2 : Int} (h0 : d0 = .d (.int .i64 v0)) (h1 : d1 = .d (.int .i64 v1)) (h2 : d2 = .d (.int .i64 v2)) : [d0, d1, d2] = dR (r10 ⟨v0, v1, v2⟩) := by simp only [r10, dR, List.map_append, List.map_cons, List.map_nil, List.cons_append, List.nil_append, List.append_assoc, List.append_nil, h0, h1, h2]
structure T7 where
  fKind : Int
  fSegment : Int
  fAt : T6
  fName : List UInt8
  deriving DecidableEq
def r11 (x : T7) : List DV := [.int .i64 x.fKind, .int .i64 x.fSegment] ++ r10 x.fAt ++ [.str x.fName]
attribute [push_cast] r11
theorem ft7 {d0 d1 d2 d3 d4 d5 : DV} {v0 : Int} {v1 : Int} {v2 : T6} {v3 : List UInt8} (h0 : d0 = .int .i64 v0) (h1 : d1 = .int .i64 v1) (h2 : [d2, d3, d4] = r10 v2) (h3 : d5 = .str v3) : [d0, d1, d2, d3, d4, d5] = r11 ⟨v0, v1, v2, v3⟩ := by unfold r11; simp only [h0, h1, ← h2, h3, List.cons_append, List.nil_append, List.append_assoc, List.append_nil]
theorem ct7 {d0 d1 d2 d3 d4 d5 : SV} {v0 : Int} {v1 : Int} {v2 : T6} {v3 : List UInt8} (h0 : svle d0 (.d (.int .i64 v0))) (h1 : svle d1 (.d (.int .i64 v1))) (h2 : cellsle [d2, d3, d4] (dR (r10 v2))) (h3 : svle d5 (.d (.str v3))) : cellsle [d0, d1, d2, d3, d4, d5] (dR (r11 ⟨v0, v1, v2, v3⟩)) := by have h := (cellsle.append (cellsle.consS h0 cellsle.nil) (cellsle.append (cellsle.consS h1 cellsle.nil) (cellsle.append h2 (cellsle.consS h3 cellsle.nil)))); simpa only [r11, dR, List.map_append, List.map_cons, List.map_nil, List.cons_append, List.nil_append, List.append_assoc, List.append_nil] using h
structure T8 where
  fRef : List UInt8
  fVerdict : Int
  fUnknown : Bool
  fFlaws : List T7
  fFailing : List (List UInt8)
  deriving DecidableEq
def r12 (x : T8) : List DV := [.str x.fRef, .int .i64 x.fVerdict, .bool x.fUnknown, .slice (List.map r11 x.fFlaws), .slice (List.map rowS x.fFailing)]
attribute [push_cast] r12
theorem ft8 {d0 d1 d2 d3 d4 : DV} {v0 : List UInt8} {v1 : Int} {v2 : Bool} {v3 : List T7} {v4 : List (List UInt8)} (h0 : d0 = .str v0) (h1 : d1 = .int .i64 v1) (h2 : d2 = .bool v2) (h3 : d3 = .slice (List.map r11 v3)) (h4 : d4 = .slice (List.map rowS v4)) : [d0, d1, d2, d3, d4] = r12 ⟨v0, v1, v2, v3, v4⟩ := by unfold r12; simp only [h0, h1, h2, h3, h4, List.cons_append, List.nil_append, List.append_assoc, List.append_nil]
theorem ct8 {d0 d1 d2 d3 d4 : SV} {v0 : List UInt8} {v1 : Int} {v2 : Bool} {v3 : List T7} {v4 : List (List UInt8)} (h0 : svle d0 (.d (.str v0))) (h1 : svle d1 (.d (.int .i64 v1))) (h2 : svle d2 (.d (.bool v2))) (h3 : svle d3 (.d (.slice (List.map r11 v3)))) (h4 : svle d4 (.d (.slice (List.map rowS v4)))) : cellsle [d0, d1, d2, d3, d4] (dR (r12 ⟨v0, v1, v2, v3, v4⟩)) := by have h := (cellsle.append (cellsle.consS h0 cellsle.nil) (cellsle.append (cellsle.consS h1 cellsle.nil) (cellsle.append (cellsle.consS h2 cellsle.nil) (cellsle.append (cellsle.consS h3 cellsle.nil) (cellsle.consS h4 cellsle.nil))))); simpa only [r12, dR, List.map_append, List.map_cons, List.map_nil, List.cons_append, List.nil_append, List.append_assoc, List.append_nil] using h
theorem et7 {d0 d1 d2 d3 d4 : SV} {v0 : List UInt8} {v1 : Int} {v2 : Bool} {v3 : List T7} {v4 : List (List UInt8)} (h0 : d0 = .d (.str v0)) (h1 : d1 = .d (.int .i64 v1)) (h2 : d2 = .d (.bool v2)) (h3 : d3 = .d (.slice (List.map r11 v3))) (h4 : d4 = .d (.slice (List.map rowS v4))) : [d0, d1, d2, d3, d4] = dR (r12 ⟨v0, v1, v2, v3, v4⟩) := by simp only [r12, dR, List.map_append, List.map_cons, List.map_nil, List.cons_append, List.nil_append, List.append_assoc, List.append_nil, h0, h1, h2, h3, h4]
structure T9 where
  fRef : List UInt8
  fVerdict : Int
  fMessages : List T8
  deriving DecidableEq
def r13 (x : T9) : List DV := [.str x.fRef, .int .i64 x.fVerdict, .slice (List.map r12 x.fMessages)]
attribute [push_cast] r13
theorem ft9 {d0 d1 d2 : DV} {v0 : List UInt8} {v1 : Int} {v2 : List T8} (h0 : d0 = .str v0) (h1 : d1 = .int .i64 v1) (h2 : d2 = .slice (List.map r12 v2)) : [d0, d1, d2] = r13 ⟨v0, v1, v2⟩ := by unfold r13; simp only [h0, h1, h2, List.cons_append, List.nil_append, List.append_assoc, List.append_nil]
theorem ct9 {d0 d1 d2 : SV} {v0 : List UInt8} {v1 : Int} {v2 : List T8} (h0 : svle d0 (.d (.str v0))) (h1 : svle d1 (.d (.int .i64 v1))) (h2 : svle d2 (.d (.slice (List.map r12 v2)))) : cellsle [d0, d1, d2] (dR (r13 ⟨v0, v1, v2⟩)) := by have h := (cellsle.append (cellsle.consS h0 cellsle.nil) (cellsle.append (cellsle.consS h1 cellsle.nil) (cellsle.consS h2 cellsle.nil))); simpa only [r13, dR, List.map_append, List.map_cons, List.map_nil, List.cons_append, List.nil_append, List.append_assoc, List.append_nil] using h
theorem et8 {d0 d1 d2 : SV} {v0 : List UInt8} {v1 : Int} {v2 : List T8} (h0 : d0 = .d (.str v0)) (h1 : d1 = .d (.int .i64 v1)) (h2 : d2 = .d (.slice (List.map r12 v2))) : [d0, d1, d2] = dR (r13 ⟨v0, v1, v2⟩) := by simp only [r13, dR, List.map_append, List.map_cons, List.map_nil, List.cons_append, List.nil_append, List.append_assoc, List.append_nil, h0, h1, h2]
structure T10 where
  fRef : List UInt8
  fVerdict : Int
  fGroups : List T9
  deriving DecidableEq
def r14 (x : T10) : List DV := [.str x.fRef, .int .i64 x.fVerdict, .slice (List.map r13 x.fGroups)]
attribute [push_cast] r14
theorem ft10 {d0 d1 d2 : DV} {v0 : List UInt8} {v1 : Int} {v2 : List T9} (h0 : d0 = .str v0) (h1 : d1 = .int .i64 v1) (h2 : d2 = .slice (List.map r13 v2)) : [d0, d1, d2] = r14 ⟨v0, v1, v2⟩ := by unfold r14; simp only [h0, h1, h2, List.cons_append, List.nil_append, List.append_assoc, List.append_nil]
theorem ct10 {d0 d1 d2 : SV} {v0 : List UInt8} {v1 : Int} {v2 : List T9} (h0 : svle d0 (.d (.str v0))) (h1 : svle d1 (.d (.int .i64 v1))) (h2 : svle d2 (.d (.slice (List.map r13 v2)))) : cellsle [d0, d1, d2] (dR (r14 ⟨v0, v1, v2⟩)) := by have h := (cellsle.append (cellsle.consS h0 cellsle.nil) (cellsle.append (cellsle.consS h1 cellsle.nil) (cellsle.consS h2 cellsle.nil))); simpa only [r14, dR, List.map_append, List.map_cons, List.map_nil, List.cons_append, List.nil_append, List.append_assoc, List.append_nil] using h
theorem et9 {d0 d1 d2 : SV} {v0 : List UInt8} {v1 : Int} {v2 : List T9} (h0 : d0 = .d (.str v0)) (h1 : d1 = .d (.int .i64 v1)) (h2 : d2 = .d (.slice (List.map r13 v2))) : [d0, d1, d2] = dR (r14 ⟨v0, v1, v2⟩) := by simp only [r14, dR, List.map_append, List.map_cons, List.map_nil, List.cons_append, List.nil_append, List.append_assoc, List.append_nil, h0, h1, h2]
def c103 : SC :=
  (.seq (.reg [.r 2 (.boxI (.t 0)),
     .r 3 (.mv (.c (.d (.bool false))))])
  (.seq (.reg [.r 4 (.fld 0 (.t 2)),
     .o 5 (.ld1 (.t 4)),
     .r 6 (.fld 0 (.t 1)),
     .o 7 (.ld1 (.t 6)),
     .r 8 (.bin .eql (.t 5) (.t 7)),
     .r 3 (.mv (.t 8))])
  .ret))
theorem k48 : fits Tryz.prog 90 Tryz.f90 c103 [.t 3] 2 = true := by kernel_rfl
def c104 : SC :=
  (.seq (.reg [.r 9 (.bin .lss (.t 8) (.t 7))])
  (.seq (.cond (.t 9)
    .skip
    (.exit 0))
  (.seq (.block 1 (.seq (.reg [.r 10 (.mv (.t 8)),
       .r 5 (.mv (.t 10))])
    (.seq (.reg [.r 11 (.mv (.t 1)),
       .r 12 (.mv (.t 0)),
       .r 13 (.mv (.t 5)),
       .r 14 (.idx 3 (.t 12) (.t 13)),
       .o 15 (.ldA 3 (.t 14)),
       .c 16 (.t 11) [.t 15]])
    (.cond (.t 16)
      (.seq (.reg [.r 17 (.mv (.t 5)),
         .r 4 (.mv (.t 17))])
      .ret)
      .skip))))
  (.reg [.r 18 (.bin .add (.t 8) (.c (.d (.int .i64 1)))),
     .r 8 (.mv (.t 18))]))))
def c105 : SC := .block 0 (.loop c104)
def c106 : SC :=
  (.seq (.reg [.r 4 (.mv (.c (.d (.int .i64 0))))])
  (.seq (.seq (.reg [.r 6 (.mv (.t 0)),
     .r 7 (.len (.t 6)),
     .r 8 (.mv (.c (.d (.int .i64 0))))])
  c105)
  (.seq (.reg [.r 4 (.mv (.c (.d (.int .i64 (-1)))))])
  .ret)))
theorem k49 : fits Tryz.prog 127 Tryz.f127 c106 [.t 4] 2 = true := by kernel_rfl
def c107 : SC :=
  (.seq (.reg [.r 2 (.boxI (.t 0)),
     .r 3 (.mv (.c (.d (.bool false))))])
  (.seq (.reg [.r 4 (.fld 0 (.t 2)),
     .o 5 (.ld1 (.t 4)),
     .r 6 (.fld 0 (.t 1)),
     .o 7 (.ld1 (.t 6)),
     .r 8 (.bin .eql (.t 5) (.t 7)),
     .r 3 (.mv (.t 8))])
  .ret))
theorem k50 : fits Tryz.prog 129 Tryz.f129 c107 [.t 3] 2 = true := by kernel_rfl
def c108 : SC :=
  (.seq (.reg [.r 9 (.bin .lss (.t 8) (.t 7))])
  (.seq (.cond (.t 9)
    .skip
    (.exit 0))
  (.seq (.block 1 (.seq (.reg [.r 10 (.mv (.t 8)),
       .r 5 (.mv (.t 10))])
    (.seq (.reg [.r 11 (.mv (.t 1)),
       .r 12 (.mv (.t 0)),
       .r 13 (.mv (.t 5)),
       .r 14 (.idx 5 (.t 12) (.t 13)),
       .o 15 (.ldA 5 (.t 14)),
       .c 16 (.t 11) [.t 15]])
    (.cond (.t 16)
      (.seq (.reg [.r 17 (.mv (.t 5)),
         .r 4 (.mv (.t 17))])
      .ret)
      .skip))))
  (.reg [.r 18 (.bin .add (.t 8) (.c (.d (.int .i64 1)))),
     .r 8 (.mv (.t 18))]))))
def c109 : SC := .block 0 (.loop c108)
def c110 : SC :=
  (.seq (.reg [.r 4 (.mv (.c (.d (.int .i64 0))))])
  (.seq (.seq (.reg [.r 6 (.mv (.t 0)),
     .r 7 (.len (.t 6)),
     .r 8 (.mv (.c (.d (.int .i64 0))))])
  c109)
  (.seq (.reg [.r 4 (.mv (.c (.d (.int .i64 (-1)))))])
  .ret)))
theorem k51 : fits Tryz.prog 155 Tryz.f155 c110 [.t 4] 2 = true := by kernel_rfl
def c111 : SC :=
  (.seq (.reg [.r 3 (.mv (.c (.d (.bool false))))])
  (.seq (.reg [.r 4 (.mv (.t 0)),
     .o 5 (.ld1 (.t 1)),
     .r 6 (.bin .neq (.t 4) (.t 5)),
     .r 3 (.mv (.t 6))])
  .ret))
theorem k52 : fits Tryz.prog 132 Tryz.f132 c111 [.t 3] 2 = true := by kernel_rfl
def c112 : SC :=
  (.seq (.reg [.r 9 (.bin .lss (.t 8) (.t 7))])
  (.seq (.cond (.t 9)
    .skip
    (.exit 0))
  (.seq (.block 1 (.seq (.reg [.r 10 (.mv (.t 8)),
       .r 5 (.mv (.t 10))])
    (.seq (.reg [.r 11 (.mv (.t 1)),
       .r 12 (.mv (.t 0)),
       .r 13 (.mv (.t 5)),
       .r 14 (.idx 1 (.t 12) (.t 13)),
       .o 15 (.ld1 (.t 14)),
       .c 16 (.t 11) [.t 15]])
    (.cond (.t 16)
      (.seq (.reg [.r 17 (.mv (.t 5)),
         .r 4 (.mv (.t 17))])
      .ret)
      .skip))))
  (.reg [.r 18 (.bin .add (.t 8) (.c (.d (.int .i64 1)))),
     .r 8 (.mv (.t 18))]))))
def c113 : SC := .block 0 (.loop c112)
def c114 : SC :=
  (.seq (.reg [.r 4 (.mv (.c (.d (.int .i64 0))))])
  (.seq (.seq (.reg [.r 6 (.mv (.t 0)),
     .r 7 (.len (.t 6)),
     .r 8 (.mv (.c (.d (.int .i64 0))))])
  c113)
  (.seq (.reg [.r 4 (.mv (.c (.d (.int .i64 (-1)))))])
  .ret)))
theorem k53 : fits Tryz.prog 157 Tryz.f157 c114 [.t 4] 2 = true := by kernel_rfl
def c115 : SC :=
  (.seq (.reg [.r 6 (.mv (.c (.d (.bool false))))])
  (.seq (.reg (.r 7 (.mv (.t 0)) :: .r 8 (.mv (.t 1)) :: .r 9 (.bin .geq (.t 7) (.t 8)) :: .r 10 (.mv (.t 9)) :: gapp [11, 12, 13] 10 true (.r 11 (.mv (.t 0)) :: .r 12 (.mv (.t 2)) :: .r 13 (.bin .leq (.t 11) (.t 12)) :: []) (.r 14 (.pick (.t 10) (.t 13) (.c (.d (.bool false)))) :: .r 6 (.mv (.t 14)) :: [])))
  .ret))
theorem k54 : fits Tryz.prog 97 Tryz.f97 c115 [.t 6] 3 = true := by kernel_rfl
def c116 : SC :=
  (.seq (.seq (.reg [.r 6 (.mv (.t 5)),
     .r 7 (.mv (.t 0)),
     .r 8 (.len (.t 7)),
     .r 9 (.bin .lss (.t 6) (.t 8))])
  (.cond (.t 9)
    .skip
    (.exit 0)))
  (.seq (.block 1 (.seq (.reg (.r 12 (.mv (.t 3)) :: .r 13 (.mv (.t 12)) :: gapp [14, 15, 16, 17, 18] 13 true (.r 14 (.mv (.t 0)) :: .r 15 (.mv (.t 5)) :: .r 16 (.idx 1 (.t 14) (.t 15)) :: .r 17 (.ld1 (.t 16)) :: .r 18 (.bin .eql (.t 17) (.c (.d (.int .i64 1)))) :: []) (.r 19 (.pick (.t 13) (.t 18) (.c (.d (.bool false)))) :: .r 3 (.mv (.t 19)) :: [])))
    (.reg (.r 20 (.mv (.t 4)) :: .r 21 (.mv (.t 20)) :: gapp [22, 23, 24, 25, 26] 21 true (.r 22 (.mv (.t 0)) :: .r 23 (.mv (.t 5)) :: .r 24 (.idx 1 (.t 22) (.t 23)) :: .r 25 (.ld1 (.t 24)) :: .r 26 (.bin .eql (.t 25) (.c (.d (.int .i64 3)))) :: []) (.r 27 (.pick (.t 21) (.t 26) (.c (.d (.bool false)))) :: .r 4 (.mv (.t 27)) :: [])))))
  (.reg [.r 10 (.mv (.t 5)),
     .r 11 (.bin .add (.t 10) (.c (.d (.int .i64 1)))),
     .r 5 (.mv (.t 11))])))
def c117 : SC := .block 0 (.loop c116)
def c118 : SC :=
  (.seq (.reg [.r 2 (.mv (.c (.d (.int .i64 0))))])
  (.seq (.reg [.r 3 (.mv (.c (.d (.bool true)))),
     .r 4 (.mv (.c (.d (.bool true))))])
  (.seq (.seq (.reg [.r 5 (.mv (.c (.d (.int .i64 0))))])
  c117)
  (.seq (.seq (.reg [.r 28 (.mv (.t 3))])
  (.cond (.t 28)
    (.seq (.reg [.r 2 (.mv (.c (.d (.int .i64 1))))])
    .ret)
    .skip))
  (.seq (.seq (.reg [.r 29 (.mv (.t 4))])
  (.cond (.t 29)
    (.seq (.reg [.r 2 (.mv (.c (.d (.int .i64 3))))])
    .ret)
    .skip))
  (.seq (.reg [.r 2 (.mv (.c (.d (.int .i64 2))))])
  .ret))))))
theorem k55 : fits Tryz.prog 100 Tryz.f100 c118 [.t 2] 1 = true := by kernel_rfl
set_option maxRecDepth 100000 in
set_option maxHeartbeats 40000000 in
noncomputable def w14 : (∀ (x0 : T9) (y0 : T9), {m : Option (Bool) // ∀ r, m = some r → PureSpec Tryz.prog 90 [.agg (r13 x0), .ptr (r13 y0)] (.bool r)}) × (∀ (x0 : List T9) (f1 : FuncId) (c1 : List DV) (p1 : T9 → Option (Bool)) (h1 : ∀ a0 r, p1 a0 = some r → PureSpec Tryz.prog f1 ([.agg (r13 a0)] ++ c1) (.bool r)), {m : Option (Int) // ∀ r, m = some r → PureSpec Tryz.prog 127 [.slice (List.map r13 x0), .fn f1 c1] (.int .i64 r)}) × (∀ (x0 : T8) (y0 : T8), {m : Option (Bool) // ∀ r, m = some r → PureSpec Tryz.prog 129 [.agg (r12 x0), .ptr (r12 y0)] (.bool r)}) × (∀ (x0 : List T8) (f1 : FuncId) (c1 : List DV) (p1 : T8 → Option (Bool)) (h1 : ∀ a0 r, p1 a0 = some r → PureSpec Tryz.prog f1 ([.agg (r12 a0)] ++ c1) (.bool r)), {m : Option (Int) // ∀ r, m = some r → PureSpec Tryz.prog 155 [.slice (List.map r12 x0), .fn f1 c1] (.int .i64 r)}) × (∀ (x0 : Int) (y0 : Int), {m : Option (Bool) // ∀ r, m = some r → PureSpec Tryz.prog 132 [.int .i64 x0, .ptr (rowI y0)] (.bool r)}) × (∀ (x0 : List Int) (f1 : FuncId) (c1 : List DV) (p1 : Int → Option (Bool)) (h1 : ∀ a0 r, p1 a0 = some r → PureSpec Tryz.prog f1 ([.int .i64 a0] ++ c1) (.bool r)), {m : Option (Int) // ∀ r, m = some r → PureSpec Tryz.prog 157 [.slice (List.map rowI x0), .fn f1 c1] (.int .i64 r)}) × (∀ (x0 : Int) (x1 : Int) (x2 : Int), {m : Option (Bool) // ∀ r, m = some r → PureSpec Tryz.prog 97 [.int .i64 x0, .int .i64 x1, .int .i64 x2] (.bool r)}) × (∀ (x0 : List Int), {m : Option (Int) // ∀ r, m = some r → PureSpec Tryz.prog 100 [.slice (List.map rowI x0)] (.int .i64 r)}) := by
  refine ⟨?g0, ?g1, ?g2, ?g3, ?g4, ?g5, ?g6, ?g7⟩
  case' g0 => (intro x0 y0; apply Subtype.mk; intro r hm; apply pure_walk Tryz.func90 k48; unfold c103)
  case' g1 => (intro x0 f1 c1 p1 h1; apply Subtype.mk; intro r hm; apply pure_walk Tryz.func127 k49; unfold c106)
  case' g2 => (intro x0 y0; apply Subtype.mk; intro r hm; apply pure_walk Tryz.func129 k50; unfold c107)
  case' g3 => (intro x0 f1 c1 p1 h1; apply Subtype.mk; intro r hm; apply pure_walk Tryz.func155 k51; unfold c110)
  case' g4 => (intro x0 y0; apply Subtype.mk; intro r hm; apply pure_walk Tryz.func132 k52; unfold c111)
  case' g5 => (intro x0 f1 c1 p1 h1; apply Subtype.mk; intro r hm; apply pure_walk Tryz.func157 k53; unfold c114)
  case' g6 => (intro x0 x1 x2; apply Subtype.mk; intro r hm; apply pure_walk Tryz.func97 k54; unfold c115)
  case' g7 => (intro x0; apply Subtype.mk; intro r hm; apply pure_walk Tryz.func100 k55; unfold c118)
  all_goals (repeat' (first | with_reducible refine W_seq ?_ | with_reducible refine W_reg ?_ | with_reducible refine W_block ?_ | with_reducible refine W_skip ?_ | with_reducible refine W_ret ?_ | with_reducible refine W_exit ?_ | with_reducible refine O_nil ?_ | with_reducible refine K_seq ?_ | with_reducible refine K_seqE ?_ | with_reducible refine K_seqR ?_ | with_reducible refine K_block ?_ | with_reducible refine K_blockR ?_ | with_reducible refine K_blockE ?_ | ((with_reducible apply K_blockN); decide) | with_reducible refine O_o2r ?_ | ((with_reducible apply O_idxr hm); (iterate 2 (simp only [push_cast, seval]; rfl)); (intro _; rfl); intro e hm) | ((with_reducible apply O_idxVr hm); (iterate 3 (simp only [push_cast, seval]; rfl)); intro e hm) | ((with_reducible apply O_r); (simp only [push_cast, seval]; rfl); (first | exact trivial | omega)) | ((with_reducible apply O_ldV1r hm); (iterate 2 (simp only [push_cast, seval]; rfl)); (intro _; rfl); intro e hm) | ((with_reducible apply O_ldAVr hm); (iterate 2 (simp only [push_cast, seval]; rfl)); (intro _; rfl); intro e hm) | ((with_reducible apply O_strr hm); (iterate 2 (simp only [push_cast, seval]; rfl)); intro hm) | ((with_reducible apply O_and hm); (simp only [push_cast, seval]; rfl); rfl; intro v hm; rotate_left; intro v g hm) | ((with_reducible apply W_condT); (focus (simp only [push_cast, seval]; done))) | ((with_reducible apply W_condF); (focus (simp only [push_cast, seval]; done))) | ((with_reducible apply O_cF hm); (simp only [push_cast, seval]; rfl); (first | apply h1 _); (any_goals ((repeat' (first | rfl | (with_reducible first | apply ft9 | apply ft8 | apply ft7 | apply ft6 | apply f_optN | apply f_optS | apply f_some | apply f_tup | apply f_agg | apply f_ptr | apply f_fn | apply dv_slice | apply sv_d | apply f_cons | apply fold_nil | apply fold_cons | apply fold_app | apply f_rowI | apply f_rowY | apply f_rowS | apply f_rowB | apply f_rowL) | (with_reducible apply f_byte; decide))); done)); intro x hm) | ((with_reducible apply O_cvS hm); (iterate 2 (simp only [push_cast, seval]; rfl)); (focus (first | exact h1 _)); intro x hm) | ((with_reducible apply S_condB hm); (simp only [push_cast, seval]; rfl); intro hm; rotate_left; intro hm) | ((with_reducible apply K_endS hm); (focus (simp only [resOf, resL, RV.get, push_cast, seval]; rfl)); (focus ((repeat' (first | rfl | (with_reducible first | apply ft9 | apply ft8 | apply ft7 | apply ft6 | apply f_optN | apply f_optS | apply f_some | apply f_tup | apply f_agg | apply f_ptr | apply f_fn | apply dv_slice | apply sv_d | apply f_cons | apply fold_nil | apply fold_cons | apply fold_app | apply f_rowI | apply f_rowY | apply f_rowS | apply f_rowB | apply f_rowL) | (with_reducible apply f_byte; decide))); done))) | ((with_reducible apply K_bool hm); (simp only [push_cast, seval]; rfl)) | ((with_reducible apply K_leave hm); intro r hm) | ((with_reducible apply K_leaveR hm); intro r hm) | ((apply S_loopY (b := 0) (X := c105) (x := c104) rfl (fun (c : SV × SV × SV) (s : Int) => st [(0, c.1), (1, c.2.1), (7, c.2.2), (8, .d (.int .i64 s))] []) (c := (_, _, _)) (s0 := _) hm); (focus (first | (dsimp only; done) | (dsimp only; rfl) | rfl)); (with_reducible refine Then.mk ?_ ?_)) | ((apply S_loopY (b := 0) (X := c109) (x := c108) rfl (fun (c : SV × SV × SV) (s : Int) => st [(0, c.1), (1, c.2.1), (7, c.2.2), (8, .d (.int .i64 s))] []) (c := (_, _, _)) (s0 := _) hm); (focus (first | (dsimp only; done) | (dsimp only; rfl) | rfl)); (with_reducible refine Then.mk ?_ ?_)) | ((apply S_loopY (b := 0) (X := c113) (x := c112) rfl (fun (c : SV × SV × SV) (s : Int) => st [(0, c.1), (1, c.2.1), (7, c.2.2), (8, .d (.int .i64 s))] []) (c := (_, _, _)) (s0 := _) hm); (focus (first | (dsimp only; done) | (dsimp only; rfl) | rfl)); (with_reducible refine Then.mk ?_ ?_)) | ((apply S_loopY (b := 0) (X := c117) (x := c116) rfl (fun (c : SV) (s : Bool × Bool × Int) => st [(0, c), (3, .d (.bool s.1)), (4, .d (.bool s.2.1)), (5, .d (.int .i64 s.2.2))] []) (c := _) (s0 := (_, _, _)) hm); (focus (first | (dsimp only; done) | (dsimp only; rfl) | rfl)); (with_reducible refine Then.mk ?_ ?_)) | ((apply K_next (s' := (_, _, _)) hm); (focus (first | (dsimp only; done) | (dsimp only; rfl) | rfl))) | ((apply K_brk (s' := (_, _, _)) hm); (focus (first | (dsimp only; done) | (dsimp only; rfl) | rfl))) | ((apply K_next (s' := _) hm); (focus (first | (dsimp only; done) | (dsimp only; rfl) | rfl))) | ((apply K_brk (s' := _) hm); (focus (first | (dsimp only; done) | (dsimp only; rfl) | rfl))) | (((with_reducible apply K_brkN hm); (focus decide); intro r hm)) | (((with_reducible apply K_brkR hm); intro r hm)) | (((with_reducible apply LoopB.of); (focus (first | (dsimp only; done) | (dsimp only; rfl) | rfl)); (focus ((intro _; repeat' (first | with_reducible exact impC_end | with_reducible exact impC_endF | with_reducible refine impC_seq ?_ | with_reducible refine impC_block ?_ | ((with_reducible refine impC_rnd ?_); intro _) | ((with_reducible refine impC_brk ?_); intro _))))); (intro s o hm; first | unfold c104 | unfold c108 | unfold c112 | unfold c116); rotate_left; intro s hm)) | (((apply imp_stT; (repeat' (first | with_reducible exact keepT_nil | with_reducible exact keepC_nil | with_reducible apply keepT_cons | with_reducible apply keepC_cons | ((with_reducible apply svle_eq); (focus (first | (simp only [push_cast, seval]; rfl) | rfl)); (focus ((repeat' (first | rfl | (with_reducible first | apply ft9 | apply ft8 | apply ft7 | apply ft6 | apply f_optN | apply f_optS | apply f_some | apply f_tup | apply f_agg | apply f_ptr | apply f_fn | apply dv_slice | apply sv_d | apply f_cons | apply fold_nil | apply fold_cons | apply fold_app | apply f_rowI | apply f_rowY | apply f_rowS | apply f_rowB | apply f_rowL) | (with_reducible apply f_byte; decide))); done))) | ((with_reducible apply svle_td); (focus (first | (simp only [push_cast, seval]; rfl) | rfl)); (focus (first | (simp only [push_cast, seval]; rfl) | rfl)); (focus ((repeat' (first | rfl | (with_reducible first | apply ft9 | apply ft8 | apply ft7 | apply ft6 | apply f_optN | apply f_optS | apply f_some | apply f_tup | apply f_agg | apply f_ptr | apply f_fn | apply dv_slice | apply sv_d | apply f_cons | apply fold_nil | apply fold_cons | apply fold_app | apply f_rowI | apply f_rowY | apply f_rowS | apply f_rowB | apply f_rowL) | (with_reducible apply f_byte; decide))); done))) | ((with_reducible apply chle_eq); (focus (first | (simp only [push_cast, seval]; rfl) | rfl)); (first | with_reducible exact chle_rfl rfl | with_reducible exact chle_map0 | with_reducible apply chle_vec | with_reducible apply chle_box)) | (with_reducible first | apply ct9 | apply ct8 | apply ct7 | apply ct6 | apply r_shS | apply r_shI | apply r_rflO | apply r_oneO | apply r_appO | apply r_nilO | apply c_ownN | apply c_ownL | apply vc_rfl | apply vc_nil | apply vc_cons | apply r_rfl | apply r_rows | apply r_nil | apply r_app | apply r_cons | apply c_rowI | apply c_rowY | apply c_rowS | apply c_rowB | apply c_rowL))); done)))))
noncomputable def m46 (x0 : T9) (y0 : T9) : Option (Bool) := (w14.1 x0 y0).1
theorem s42 (x0 : T9) (y0 : T9) : ∀ r, m46 x0 y0 = some r → PureSpec Tryz.prog 90 [.agg (r13 x0), .ptr (r13 y0)] (.bool r) := (w14.1 x0 y0).2
noncomputable def m47 (x0 : List T9) (f1 : FuncId) (c1 : List DV) (p1 : T9 → Option (Bool)) (h1 : ∀ a0 r, p1 a0 = some r → PureSpec Tryz.prog f1 ([.agg (r13 a0)] ++ c1) (.bool r)) : Option (Int) := (w14.2.1 x0 f1 c1 p1 h1).1
theorem s43 (x0 : List T9) (f1 : FuncId) (c1 : List DV) (p1 : T9 → Option (Bool)) (h1 : ∀ a0 r, p1 a0 = some r → PureSpec Tryz.prog f1 ([.agg (r13 a0)] ++ c1) (.bool r)) : ∀ r, m47 x0 f1 c1 p1 h1 = some r → PureSpec Tryz.prog 127 [.slice (List.map r13 x0), .fn f1 c1] (.int .i64 r) := (w14.2.1 x0 f1 c1 p1 h1).2
noncomputable def m48 (x0 : T8) (y0 : T8) : Option (Bool) := (w14.2.2.1 x0 y0).1
theorem s44 (x0 : T8) (y0 : T8) : ∀ r, m48 x0 y0 = some r → PureSpec Tryz.prog 129 [.agg (r12 x0), .ptr (r12 y0)] (.bool r) := (w14.2.2.1 x0 y0).2
noncomputable def m49 (x0 : List T8) (f1 : FuncId) (c1 : List DV) (p1 : T8 → Option (Bool)) (h1 : ∀ a0 r, p1 a0 = some r → PureSpec Tryz.prog f1 ([.agg (r12 a0)] ++ c1) (.bool r)) : Option (Int) := (w14.2.2.2.1 x0 f1 c1 p1 h1).1
theorem s45 (x0 : List T8) (f1 : FuncId) (c1 : List DV) (p1 : T8 → Option (Bool)) (h1 : ∀ a0 r, p1 a0 = some r → PureSpec Tryz.prog f1 ([.agg (r12 a0)] ++ c1) (.bool r)) : ∀ r, m49 x0 f1 c1 p1 h1 = some r → PureSpec Tryz.prog 155 [.slice (List.map r12 x0), .fn f1 c1] (.int .i64 r) := (w14.2.2.2.1 x0 f1 c1 p1 h1).2
noncomputable def m50 (x0 : Int) (y0 : Int) : Option (Bool) := (w14.2.2.2.2.1 x0 y0).1
theorem s46 (x0 : Int) (y0 : Int) : ∀ r, m50 x0 y0 = some r → PureSpec Tryz.prog 132 [.int .i64 x0, .ptr (rowI y0)] (.bool r) := (w14.2.2.2.2.1 x0 y0).2
noncomputable def m51 (x0 : List Int) (f1 : FuncId) (c1 : List DV) (p1 : Int → Option (Bool)) (h1 : ∀ a0 r, p1 a0 = some r → PureSpec Tryz.prog f1 ([.int .i64 a0] ++ c1) (.bool r)) : Option (Int) := (w14.2.2.2.2.2.1 x0 f1 c1 p1 h1).1
theorem s47 (x0 : List Int) (f1 : FuncId) (c1 : List DV) (p1 : Int → Option (Bool)) (h1 : ∀ a0 r, p1 a0 = some r → PureSpec Tryz.prog f1 ([.int .i64 a0] ++ c1) (.bool r)) : ∀ r, m51 x0 f1 c1 p1 h1 = some r → PureSpec Tryz.prog 157 [.slice (List.map rowI x0), .fn f1 c1] (.int .i64 r) := (w14.2.2.2.2.2.1 x0 f1 c1 p1 h1).2
noncomputable def m52 (x0 : Int) (x1 : Int) (x2 : Int) : Option (Bool) := (w14.2.2.2.2.2.2.1 x0 x1 x2).1
theorem s48 (x0 : Int) (x1 : Int) (x2 : Int) : ∀ r, m52 x0 x1 x2 = some r → PureSpec Tryz.prog 97 [.int .i64 x0, .int .i64 x1, .int .i64 x2] (.bool r) := (w14.2.2.2.2.2.2.1 x0 x1 x2).2
noncomputable def m53 (x0 : List Int) : Option (Int) := (w14.2.2.2.2.2.2.2 x0).1
theorem s49 (x0 : List Int) : ∀ r, m53 x0 = some r → PureSpec Tryz.prog 100 [.slice (List.map rowI x0)] (.int .i64 r) := (w14.2.2.2.2.2.2.2 x0).2
def c119 : SC :=
  (.seq (.reg [.r 2 (.mv (.c (.d (.bool false))))])
  (.seq (.reg [.r 3 (.mv (.t 0)),
     .c 4 (.f 40) [.t 3, .c (.d (.int .i64 1)), .c (.d (.int .i64 3))],
     .r 5 (.not (.t 4)),
     .r 2 (.mv (.t 5))])
  .ret))
theorem k56 : fits Tryz.prog 53 Tryz.f53 c119 [.t 2] 1 = true := by kernel_rfl
def c120 : SC :=
  (.seq (.reg [.r 4 (.mv (.c (.d (.bool false))))])
  (.seq (.reg [.r 5 (.mv (.t 0)),
     .r 6 (.mv (.t 1)),
     .c 7 (.f 127) [.t 5, .t 6],
     .r 8 (.bin .geq (.t 7) (.c (.d (.int .i64 0)))),
     .r 4 (.mv (.t 8))])
  .ret))
theorem k57 : fits Tryz.prog 89 Tryz.f89 c120 [.t 4] 2 = true := by kernel_rfl
def c121 : SC :=
  (.seq (.reg [.r 4 (.mv (.c (.d (.bool false))))])
  (.seq (.reg [.r 5 (.mv (.t 0)),
     .r 6 (.mv (.t 1)),
     .c 7 (.f 155) [.t 5, .t 6],
     .r 8 (.bin .geq (.t 7) (.c (.d (.int .i64 0)))),
     .r 4 (.mv (.t 8))])
  .ret))
theorem k58 : fits Tryz.prog 128 Tryz.f128 c121 [.t 4] 2 = true := by kernel_rfl
def c122 : SC :=
  (.seq (.reg [.r 2 (.mv (.c (.d (.bool false))))])
  (.seq (.reg [.r 3 (.mv (.t 0)),
     .c 4 (.f 40) [.t 3, .c (.d (.int .i64 1)), .c (.d (.int .i64 12))],
     .r 5 (.not (.t 4)),
     .r 2 (.mv (.t 5))])
  .ret))
theorem k59 : fits Tryz.prog 156 Tryz.f156 c122 [.t 2] 1 = true := by kernel_rfl
def c123 : SC :=
  (.seq (.reg [.r 1 (.boxI (.t 0)),
     .r 2 (.mv (.c (.d (.raw .nilFunc))))])
  (.seq (.reg [.r 3 (.mkfn 132 [.t 1]),
     .r 2 (.mv (.t 3))])
  .ret))
theorem k60 : fits Tryz.prog 131 Tryz.f131 c123 [.t 2] 1 = true := by kernel_rfl
def c124 : SC :=
  (.seq (.reg [.r 4 (.mv (.c (.d (.bool false))))])
  (.seq (.reg [.r 5 (.mv (.t 0)),
     .r 6 (.mv (.t 1)),
     .c 7 (.f 157) [.t 5, .t 6],
     .r 8 (.bin .geq (.t 7) (.c (.d (.int .i64 0)))),
     .r 4 (.mv (.t 8))])
  .ret))
theorem k61 : fits Tryz.prog 133 Tryz.f133 c124 [.t 4] 2 = true := by kernel_rfl
def c125 : SC :=
  (.seq (.reg [.r 2 (.mv (.c (.d (.bool false))))])
  (.seq (.reg [.r 3 (.mv (.t 0)),
     .c 4 (.f 97) [.t 3, .c (.d (.int .i64 1)), .c (.d (.int .i64 3))],
     .r 2 (.mv (.t 4))])
  .ret))
theorem k62 : fits Tryz.prog 62 Tryz.f62 c125 [.t 2] 1 = true := by kernel_rfl
def c126 : SC :=
  (.seq (.seq (.reg [.r 8 (.mv (.t 3)),
     .r 9 (.mv (.t 0)),
     .r 10 (.len (.t 9)),
     .r 11 (.bin .lss (.t 8) (.t 10))])
  (.cond (.t 11)
    .skip
    (.exit 0)))
  (.seq (.block 1 (.seq (.reg [.r 14 (.mv (.t 0)),
       .r 15 (.mv (.t 3)),
       .r 16 (.idx 6 (.t 14) (.t 15)),
       .o 17 (.ldA 6 (.t 16)),
       .w 4 (.boxM (.c (.agg [.d (.int .i64 0), .d (.int .i64 0), .d (.int .i64 0), .d (.int .i64 0), .d (.int .i64 0), .d (.str [])]))),
       .w 0 (.st 6 (.t 4) (.t 17))])
    (.seq (.seq (.reg [.r 18 (.fld 0 (.t 4)),
       .o 19 (.ld1 (.t 18)),
       .c 20 (.f 97) [.t 19, .c (.d (.int .i64 1)), .c (.d (.int .i64 12))],
       .r 21 (.not (.t 20))])
    (.cond (.t 21)
      (.seq (.reg [.r 2 (.mv (.c (.d (.int .i64 4))))])
      .ret)
      .skip))
    (.seq (.seq (.reg (.r 22 (.fld 1 (.t 4)) :: .o 23 (.ld1 (.t 22)) :: .c 24 (.f 97) [.t 23, .c (.d (.int .i64 0)), .c (.d (.int .i64 2000))] :: .r 25 (.not (.t 24)) :: .r 26 (.mv (.t 25)) :: gapp [27, 28, 29, 30, 31] 26 false (.r 27 (.fld 2 (.t 4)) :: .r 28 (.fld 0 (.t 27)) :: .r 29 (.ld1 (.t 28)) :: .c 30 (.f 97) [.t 29, .c (.d (.int .i64 0)), .c (.d (.int .i64 51))] :: .r 31 (.not (.t 30)) :: []) (.r 32 (.pick (.t 26) (.c (.d (.bool true))) (.t 31)) :: .r 33 (.mv (.t 32)) :: gapp [34, 35, 36, 37, 38] 33 false (.r 34 (.fld 2 (.t 4)) :: .r 35 (.fld 1 (.t 34)) :: .r 36 (.ld1 (.t 35)) :: .c 37 (.f 97) [.t 36, .c (.d (.int .i64 0)), .c (.d (.int .i64 21))] :: .r 38 (.not (.t 37)) :: []) (.r 39 (.pick (.t 33) (.c (.d (.bool true))) (.t 38)) :: .r 40 (.mv (.t 39)) :: gapp [41, 42, 43, 44, 45] 40 false (.r 41 (.fld 2 (.t 4)) :: .r 42 (.fld 2 (.t 41)) :: .r 43 (.ld1 (.t 42)) :: .c 44 (.f 97) [.t 43, .c (.d (.int .i64 0)), .c (.d (.int .i64 21))] :: .r 45 (.not (.t 44)) :: []) (.r 46 (.pick (.t 40) (.c (.d (.bool true))) (.t 45)) :: [])))))
    (.cond (.t 46)
      (.seq (.reg [.r 2 (.mv (.c (.d (.int .i64 1))))])
      .ret)
      .skip))
    (.seq (.seq (.reg (.r 47 (.fld 5 (.t 4)) :: .o 48 (.ld1 (.t 47)) :: .r 49 (.bin .neq (.t 48) (.c (.d (.str [])))) :: .r 50 (.mv (.t 49)) :: gapp [51, 52, 53, 54] 50 true (.r 51 (.fld 5 (.t 4)) :: .r 52 (.ld1 (.t 51)) :: .c 53 (.f 158) [.t 52] :: .r 54 (.not (.t 53)) :: []) (.r 55 (.pick (.t 50) (.t 54) (.c (.d (.bool false)))) :: .r 56 (.mv (.t 55)) :: gapp [57, 58, 59, 60] 56 true (.r 57 (.fld 5 (.t 4)) :: .r 58 (.ld1 (.t 57)) :: .c 59 (.f 44) [.t 58] :: .r 60 (.not (.t 59)) :: []) (.r 61 (.pick (.t 56) (.t 60) (.c (.d (.bool false)))) :: []))))
    (.cond (.t 61)
      (.seq (.reg [.r 2 (.mv (.c (.d (.int .i64 3))))])
      .ret)
      .skip))
    (.seq (.regD (.r 62 (.mv (.t 3)) :: .r 63 (.bin .gtr (.t 62) (.c (.d (.int .i64 0)))) :: .r 64 (.mv (.t 63)) :: gapp [65, 66, 67, 68, 69, 70, 71, 72, 73] 64 true (.r 65 (.fld 1 (.t 4)) :: .r 66 (.ld1 (.t 65)) :: .r 67 (.mv (.t 0)) :: .r 68 (.mv (.t 3)) :: .r 69 (.bin .sub (.t 68) (.c (.d (.int .i64 1)))) :: .r 70 (.idx 6 (.t 67) (.t 69)) :: .r 71 (.fld 1 (.t 70)) :: .r 72 (.ld1 (.t 71)) :: .r 73 (.bin .lss (.t 66) (.t 72)) :: []) (.r 74 (.pick (.t 64) (.t 73) (.c (.d (.bool false)))) :: [])))
    (.cond (.t 74)
      (.seq (.reg [.r 2 (.mv (.c (.d (.int .i64 8))))])
      .ret)
      .skip)))))))
  (.reg [.r 12 (.mv (.t 3)),
     .r 13 (.bin .add (.t 12) (.c (.d (.int .i64 1)))),
     .r 3 (.mv (.t 13))])))
def c127 : SC := .block 0 (.loop c126)
def c128 : SC :=
  (.seq (.reg [.r 2 (.mv (.c (.d (.int .i64 0))))])
  (.seq (.seq (.reg [.r 5 (.mv (.t 0)),
     .r 6 (.len (.t 5)),
     .r 7 (.bin .gtr (.t 6) (.c (.d (.int .i64 500))))])
  (.cond (.t 7)
    (.seq (.reg [.r 2 (.mv (.c (.d (.int .i64 2))))])
    .ret)
    .skip))
  (.seq (.seq (.reg [.r 3 (.mv (.c (.d (.int .i64 0))))])
  c127)
  (.seq (.reg [.r 2 (.mv (.c (.d (.int .i64 0))))])
  .ret))))
theorem k63 : fits Tryz.prog 134 Tryz.f134 c128 [.t 2] 1 = true := by kernel_rfl
def c129 : SC :=
  (.seq (.seq (.reg [.r 5 (.mv (.t 4)),
     .r 6 (.fld 2 (.t 1)),
     .o 7 (.ld1 (.t 6)),
     .r 8 (.len (.t 7)),
     .r 9 (.bin .lss (.t 5) (.t 8))])
  (.cond (.t 9)
    .skip
    (.exit 0)))
  (.seq (.block 1 (.reg [.r 12 (.mv (.t 3)),
       .r 13 (.fld 2 (.t 1)),
       .o 14 (.ld1 (.t 13)),
       .r 15 (.mv (.t 4)),
       .r 16 (.idx 5 (.t 14) (.t 15)),
       .r 17 (.fld 1 (.t 16)),
       .o 18 (.ld1 (.t 17)),
       .r 19 (.bslice 1 [.t 18]),
       .w 20 (.app 3 1 (.t 12) (.t 19)),
       .r 3 (.mv (.t 20))]))
  (.reg [.r 10 (.mv (.t 4)),
     .r 11 (.bin .add (.t 10) (.c (.d (.int .i64 1)))),
     .r 4 (.mv (.t 11))])))
def c130 : SC := .block 0 (.loop c129)
def c131 : SC :=
  (.seq (.reg [.r 1 (.boxI (.t 0)),
     .r 2 (.mv (.c (.d (.int .i64 0))))])
  (.seq (.reg [.r 3 (.mv (.c (.nils)))])
  (.seq (.seq (.reg [.r 4 (.mv (.c (.d (.int .i64 0))))])
  c130)
  (.seq (.reg [.r 21 (.mv (.t 3)),
     .c 22 (.f 100) [.t 21],
     .r 2 (.mv (.t 22))])
  .ret))))
theorem k64 : fits Tryz.prog 99 Tryz.f99 c131 [.t 2] 1 = true := by kernel_rfl
def c132 : SC :=
  (.seq (.seq (.reg [.r 5 (.mv (.t 4)),
     .r 6 (.fld 2 (.t 1)),
     .o 7 (.ld1 (.t 6)),
     .r 8 (.len (.t 7)),
     .r 9 (.bin .lss (.t 5) (.t 8))])
  (.cond (.t 9)
    .skip
    (.exit 0)))
  (.seq (.block 1 (.reg [.r 12 (.mv (.t 3)),
       .r 13 (.fld 2 (.t 1)),
       .o 14 (.ld1 (.t 13)),
       .r 15 (.mv (.t 4)),
       .r 16 (.idx 3 (.t 14) (.t 15)),
       .r 17 (.fld 1 (.t 16)),
       .o 18 (.ld1 (.t 17)),
       .r 19 (.bslice 1 [.t 18]),
       .w 20 (.app 3 1 (.t 12) (.t 19)),
       .r 3 (.mv (.t 20))]))
  (.reg [.r 10 (.mv (.t 4)),
     .r 11 (.bin .add (.t 10) (.c (.d (.int .i64 1)))),
     .r 4 (.mv (.t 11))])))
def c133 : SC := .block 0 (.loop c132)
def c134 : SC :=
  (.seq (.reg [.r 1 (.boxI (.t 0)),
     .r 2 (.mv (.c (.d (.int .i64 0))))])
  (.seq (.reg [.r 3 (.mv (.c (.nils)))])
  (.seq (.seq (.reg [.r 4 (.mv (.c (.d (.int .i64 0))))])
  c133)
  (.seq (.reg [.r 21 (.mv (.t 3)),
     .c 22 (.f 100) [.t 21],
     .r 2 (.mv (.t 22))])
  .ret))))
theorem k65 : fits Tryz.prog 64 Tryz.f64 c134 [.t 2] 1 = true := by kernel_rfl
set_option maxRecDepth 100000 in
set_option maxHeartbeats 40000000 in
noncomputable def w15 : (∀ (x0 : Int), {m : Option (Bool) // ∀ r, m = some r → PureSpec Tryz.prog 53 [.int .i64 x0] (.bool r)}) × (∀ (x0 : List T9) (f1 : FuncId) (c1 : List DV) (p1 : T9 → Option (Bool)) (h1 : ∀ a0 r, p1 a0 = some r → PureSpec Tryz.prog f1 ([.agg (r13 a0)] ++ c1) (.bool r)), {m : Option (Bool) // ∀ r, m = some r → PureSpec Tryz.prog 89 [.slice (List.map r13 x0), .fn f1 c1] (.bool r)}) × (∀ (x0 : List T8) (f1 : FuncId) (c1 : List DV) (p1 : T8 → Option (Bool)) (h1 : ∀ a0 r, p1 a0 = some r → PureSpec Tryz.prog f1 ([.agg (r12 a0)] ++ c1) (.bool r)), {m : Option (Bool) // ∀ r, m = some r → PureSpec Tryz.prog 128 [.slice (List.map r12 x0), .fn f1 c1] (.bool r)}) × (∀ (x0 : Int), {m : Option (Bool) // ∀ r, m = some r → PureSpec Tryz.prog 156 [.int .i64 x0] (.bool r)}) × (∀ (x0 : Int), {m : Option (Int) // ∀ r, m = some r → PureSpec Tryz.prog 131 [.int .i64 x0] (.fn 132 [.ptr (rowI r)])}) × (∀ (x0 : List Int) (f1 : FuncId) (c1 : List DV) (p1 : Int → Option (Bool)) (h1 : ∀ a0 r, p1 a0 = some r → PureSpec Tryz.prog f1 ([.int .i64 a0] ++ c1) (.bool r)), {m : Option (Bool) // ∀ r, m = some r → PureSpec Tryz.prog 133 [.slice (List.map rowI x0), .fn f1 c1] (.bool r)}) × (∀ (x0 : Int), {m : Option (Bool) // ∀ r, m = some r → PureSpec Tryz.prog 62 [.int .i64 x0] (.bool r)}) × (∀ (x0 : List T7), {m : Option (Int) // ∀ r, m = some r → PureSpec Tryz.prog 134 [.slice (List.map r11 x0)] (.int .i64 r)}) × (∀ (x0 : T9), {m : Option (Int) // ∀ r, m = some r → PureSpec Tryz.prog 99 [.agg (r13 x0)] (.int .i64 r)}) × (∀ (x0 : T10), {m : Option (Int) // ∀ r, m = some r → PureSpec Tryz.prog 64 [.agg (r14 x0)] (.int .i64 r)}) := by
  refine ⟨?g0, ?g1, ?g2, ?g3, ?g4, ?g5, ?g6, ?g7, ?g8, ?g9⟩
  case' g0 => (intro x0; apply Subtype.mk; intro r hm; apply pure_walk Tryz.func53 k56; unfold c119)
  case' g1 => (intro x0 f1 c1 p1 h1; apply Subtype.mk; intro r hm; apply pure_walk Tryz.func89 k57; unfold c120)
  case' g2 => (intro x0 f1 c1 p1 h1; apply Subtype.mk; intro r hm; apply pure_walk Tryz.func128 k58; unfold c121)
  case' g3 => (intro x0; apply Subtype.mk; intro r hm; apply pure_walk Tryz.func156 k59; unfold c122)
  case' g4 => (intro x0; apply Subtype.mk; intro r hm; apply pure_walk Tryz.func131 k60; unfold c123)
  case' g5 => (intro x0 f1 c1 p1 h1; apply Subtype.mk; intro r hm; apply pure_walk Tryz.func133 k61; unfold c124)
  case' g6 => (intro x0; apply Subtype.mk; intro r hm; apply pure_walk Tryz.func62 k62; unfold c125)
  case' g7 => (intro x0; apply Subtype.mk; intro r hm; apply pure_walk Tryz.func134 k63; unfold c128)
  case' g8 => (intro x0; apply Subtype.mk; intro r hm; apply pure_walk Tryz.func99 k64; unfold c131)
  case' g9 => (intro x0; apply Subtype.mk; intro r hm; apply pure_walk Tryz.func64 k65; unfold c134)
  all_goals (repeat' (first | with_reducible refine W_seq ?_ | with_reducible refine W_reg ?_ | with_reducible refine W_regD ?_ | with_reducible refine W_block ?_ | with_reducible refine W_skip ?_ | with_reducible refine W_ret ?_ | with_reducible refine W_exit ?_ | with_reducible refine O_nil ?_ | with_reducible refine K_seq ?_ | with_reducible refine K_seqE ?_ | with_reducible refine K_seqR ?_ | with_reducible refine K_block ?_ | with_reducible refine K_blockR ?_ | with_reducible refine K_blockE ?_ | ((with_reducible apply K_blockN); decide) | with_reducible refine O_o2r ?_ | ((with_reducible apply O_idxr hm); (iterate 2 (simp only [push_cast, seval]; rfl)); (intro _; rfl); intro e hm) | ((with_reducible apply O_idxVr hm); (iterate 3 (simp only [push_cast, seval]; rfl)); intro e hm) | ((with_reducible apply O_idxLr hm (row := rowI)); (iterate 2 (simp only [push_cast, seval]; rfl)); (focus ((repeat' (first | rfl | (with_reducible first | apply ft9 | apply ft8 | apply ft7 | apply ft6 | apply ft10 | apply f_optN | apply f_optS | apply f_some | apply f_tup | apply f_agg | apply f_ptr | apply f_fn | apply dv_slice | apply sv_d | apply f_cons | apply fold_nil | apply fold_cons | apply fold_app | apply f_rowI | apply f_rowY | apply f_rowS | apply f_rowB | apply f_rowL) | (with_reducible apply f_byte; decide))); done)); (simp only [push_cast, seval]; rfl); (intro _; rfl); intro e hm) | ((with_reducible apply O_r); (simp only [push_cast, seval]; rfl); (first | exact trivial | omega)) | ((with_reducible apply O_ldV1r hm); (iterate 2 (simp only [push_cast, seval]; rfl)); (intro _; rfl); intro e hm) | ((with_reducible apply O_ldAVr hm); (iterate 2 (simp only [push_cast, seval]; rfl)); (intro _; rfl); intro e hm) | ((with_reducible apply O_strr hm); (iterate 2 (simp only [push_cast, seval]; rfl)); intro hm) | ((with_reducible apply O_and hm); (simp only [push_cast, seval]; rfl); rfl; intro v hm; rotate_left; intro v g hm) | ((with_reducible apply O_or hm); (simp only [push_cast, seval]; rfl); rfl; intro v hm; rotate_left; intro v g hm) | ((with_reducible apply W_condT); (focus (simp only [push_cast, seval]; done))) | ((with_reducible apply W_condF); (focus (simp only [push_cast, seval]; done))) | ((with_reducible apply O_cF hm); (simp only [push_cast, seval]; rfl); (first | apply s17 _ _ _ | apply s43 _ _ _ _ h1 | apply h1 _ | apply s45 _ _ _ _ h1 | apply s46 _ _ | apply s47 _ _ _ _ h1 | apply s48 _ _ _ | apply s8 _ | apply s27 _ | apply s49 _); (any_goals ((repeat' (first | rfl | (with_reducible first | apply ft9 | apply ft8 | apply ft7 | apply ft6 | apply ft10 | apply f_optN | apply f_optS | apply f_some | apply f_tup | apply f_agg | apply f_ptr | apply f_fn | apply dv_slice | apply sv_d | apply f_cons | apply fold_nil | apply fold_cons | apply fold_app | apply f_rowI | apply f_rowY | apply f_rowS | apply f_rowB | apply f_rowL) | (with_reducible apply f_byte; decide))); done)); intro x hm) | ((with_reducible apply O_clS hm); (simp only [push_cast, seval]; rfl); (focus (first | exact s17 _ _ _ | exact s43 _ _ _ _ h1 | exact h1 _ | exact s45 _ _ _ _ h1 | exact s46 _ _ | exact s47 _ _ _ _ h1 | exact s48 _ _ _ | exact s8 _ | exact s27 _ | exact s49 _)); (intro _; rfl); intro x hm) | ((with_reducible apply O_cvS hm); (iterate 2 (simp only [push_cast, seval]; rfl)); (focus (first | exact s17 _ _ _ | exact s43 _ _ _ _ h1 | exact h1 _ | exact s45 _ _ _ _ h1 | exact s46 _ _ | exact s47 _ _ _ _ h1 | exact s48 _ _ _ | exact s8 _ | exact s27 _ | exact s49 _)); intro x hm) | ((with_reducible apply O_w); (simp only [push_cast, seval]; rfl); (first | exact trivial | omega)) | ((with_reducible apply O_appL hm (row := rowI)); (iterate 5 (simp only [push_cast, seval]; rfl)); (focus ((repeat' (first | rfl | (with_reducible first | apply ft9 | apply ft8 | apply ft7 | apply ft6 | apply ft10 | apply f_optN | apply f_optS | apply f_some | apply f_tup | apply f_agg | apply f_ptr | apply f_fn | apply dv_slice | apply sv_d | apply f_cons | apply fold_nil | apply fold_cons | apply fold_app | apply f_rowI | apply f_rowY | apply f_rowS | apply f_rowB | apply f_rowL) | (with_reducible apply f_byte; decide))); done)); (focus ((repeat' (first | rfl | (with_reducible first | apply ft9 | apply ft8 | apply ft7 | apply ft6 | apply ft10 | apply f_optN | apply f_optS | apply f_some | apply f_tup | apply f_agg | apply f_ptr | apply f_fn | apply dv_slice | apply sv_d | apply f_cons | apply fold_nil | apply fold_cons | apply fold_app | apply f_rowI | apply f_rowY | apply f_rowS | apply f_rowB | apply f_rowL) | (with_reducible apply f_byte; decide))); done)); rfl; decide; (intro _; rfl); intro hm) | ((with_reducible apply O_appV hm); (iterate 4 (simp only [push_cast, seval]; rfl)); (focus ((repeat' (first | rfl | (with_reducible first | apply ft9 | apply ft8 | apply ft7 | apply ft6 | apply ft10 | apply f_optN | apply f_optS | apply f_some | apply f_tup | apply f_agg | apply f_ptr | apply f_fn | apply dv_slice | apply sv_d | apply f_cons | apply fold_nil | apply fold_cons | apply fold_app | apply f_rowI | apply f_rowY | apply f_rowS | apply f_rowB | apply f_rowL) | (with_reducible apply f_byte; decide))); done)); decide; (intro _; rfl); intro hm) | ((with_reducible apply O_appN hm); (focus (simp only [push_cast, seval]; done)); (iterate 2 (simp only [push_cast, seval]; rfl)); (focus ((repeat' (first | rfl | (with_reducible first | apply ft9 | apply ft8 | apply ft7 | apply ft6 | apply ft10 | apply f_optN | apply f_optS | apply f_some | apply f_tup | apply f_agg | apply f_ptr | apply f_fn | apply dv_slice | apply sv_d | apply f_cons | apply fold_nil | apply fold_cons | apply fold_app | apply f_rowI | apply f_rowY | apply f_rowS | apply f_rowB | apply f_rowL) | (with_reducible apply f_byte; decide))); done)); decide; (intro _; rfl); intro hm) | ((with_reducible apply O_stVA hm); (iterate 4 (simp only [push_cast, seval]; rfl)); (focus ((repeat' (first | rfl | (with_reducible first | apply ft9 | apply ft8 | apply ft7 | apply ft6 | apply ft10 | apply f_optN | apply f_optS | apply f_some | apply f_tup | apply f_agg | apply f_ptr | apply f_fn | apply dv_slice | apply sv_d | apply f_cons | apply fold_nil | apply fold_cons | apply fold_app | apply f_rowI | apply f_rowY | apply f_rowS | apply f_rowB | apply f_rowL) | (with_reducible apply f_byte; decide))); done)); decide; (intro _; rfl); intro e hm) | ((with_reducible apply O_stV hm); (iterate 3 (simp only [push_cast, seval]; rfl)); rfl; (intro _; rfl); rfl; (focus (intro a; simp only [push_cast, seval]; rfl)); (focus (intro a; (repeat' (first | rfl | with_reducible apply et8 | with_reducible apply et7 | with_reducible apply eT_Tapi_Flaw | with_reducible apply et6 | with_reducible apply et9)); done)); intro e hm) | ((with_reducible apply S_condB hm); (simp only [push_cast, seval]; rfl); intro hm; rotate_left; intro hm) | ((with_reducible apply K_endS hm); (focus (simp only [resOf, resL, RV.get, push_cast, seval]; rfl)); (focus ((repeat' (first | rfl | (with_reducible first | apply ft9 | apply ft8 | apply ft7 | apply ft6 | apply ft10 | apply f_optN | apply f_optS | apply f_some | apply f_tup | apply f_agg | apply f_ptr | apply f_fn | apply dv_slice | apply sv_d | apply f_cons | apply fold_nil | apply fold_cons | apply fold_app | apply f_rowI | apply f_rowY | apply f_rowS | apply f_rowB | apply f_rowL) | (with_reducible apply f_byte; decide))); done))) | ((with_reducible apply K_bool hm); (simp only [push_cast, seval]; rfl)) | ((with_reducible apply K_leave hm); intro r hm) | ((with_reducible apply K_leaveR hm); intro r hm) | ((apply S_loopY (b := 0) (X := c127) (x := c126) rfl (fun (c : SV) (s : Int) => st [(0, c), (3, .d (.int .i64 s))] []) (c := _) (s0 := _) hm); (focus (first | (dsimp only; done) | (dsimp only; rfl) | rfl)); (with_reducible refine Then.mk ?_ ?_)) | ((apply S_loopY (b := 0) (X := c130) (x := c129) rfl (fun (c : SV) (s : (List Int) × Int) => st [(1, c), (3, .vec 3), (4, .d (.int .i64 s.2))] [(3, .vec 3 1 (vrow rowI s.1))]) (c := _) (s0 := (_, _)) hm); (focus (first | (dsimp only; done) | (dsimp only; rfl) | rfl)); (with_reducible refine Then.mk ?_ ?_); apply Imp.trans; (focus (apply imp_vecnil (slot := 3) (id := 3) (e := 3) (sz := 1); (focus (simp only [push_cast, seval]; done))))) | ((apply S_loopY (b := 0) (X := c133) (x := c132) rfl (fun (c : SV) (s : (List Int) × Int) => st [(1, c), (3, .vec 3), (4, .d (.int .i64 s.2))] [(3, .vec 3 1 (vrow rowI s.1))]) (c := _) (s0 := (_, _)) hm); (focus (first | (dsimp only; done) | (dsimp only; rfl) | rfl)); (with_reducible refine Then.mk ?_ ?_); apply Imp.trans; (focus (apply imp_vecnil (slot := 3) (id := 3) (e := 3) (sz := 1); (focus (simp only [push_cast, seval]; done))))) | ((apply K_next (s' := (_, _)) hm); (focus (first | (dsimp only; done) | (dsimp only; rfl) | rfl))) | ((apply K_brk (s' := (_, _)) hm); (focus (first | (dsimp only; done) | (dsimp only; rfl) | rfl))) | ((apply K_next (s' := _) hm); (focus (first | (dsimp only; done) | (dsimp only; rfl) | rfl))) | ((apply K_brk (s' := _) hm); (focus (first | (dsimp only; done) | (dsimp only; rfl) | rfl))) | (((with_reducible apply K_brkN hm); (focus decide); intro r hm)) | (((with_reducible apply K_brkR hm); intro r hm)) | (((with_reducible apply LoopB.of); (focus (first | (dsimp only; done) | (dsimp only; rfl) | rfl)); (focus ((intro _; repeat' (first | with_reducible exact impC_end | with_reducible exact impC_endF | with_reducible refine impC_seq ?_ | with_reducible refine impC_block ?_ | ((with_reducible refine impC_rnd ?_); intro _) | ((with_reducible refine impC_brk ?_); intro _))))); (intro s o hm; first | unfold c126 | unfold c129 | unfold c132); rotate_left; intro s hm)) | (((apply imp_stT; (repeat' (first | with_reducible exact keepT_nil | with_reducible exact keepC_nil | with_reducible apply keepT_cons | with_reducible apply keepC_cons | ((with_reducible apply svle_eq); (focus (first | (simp only [push_cast, seval]; rfl) | rfl)); (focus ((repeat' (first | rfl | (with_reducible first | apply ft9 | apply ft8 | apply ft7 | apply ft6 | apply ft10 | apply f_optN | apply f_optS | apply f_some | apply f_tup | apply f_agg | apply f_ptr | apply f_fn | apply dv_slice | apply sv_d | apply f_cons | apply fold_nil | apply fold_cons | apply fold_app | apply f_rowI | apply f_rowY | apply f_rowS | apply f_rowB | apply f_rowL) | (with_reducible apply f_byte; decide))); done))) | ((with_reducible apply svle_td); (focus (first | (simp only [push_cast, seval]; rfl) | rfl)); (focus (first | (simp only [push_cast, seval]; rfl) | rfl)); (focus ((repeat' (first | rfl | (with_reducible first | apply ft9 | apply ft8 | apply ft7 | apply ft6 | apply ft10 | apply f_optN | apply f_optS | apply f_some | apply f_tup | apply f_agg | apply f_ptr | apply f_fn | apply dv_slice | apply sv_d | apply f_cons | apply fold_nil | apply fold_cons | apply fold_app | apply f_rowI | apply f_rowY | apply f_rowS | apply f_rowB | apply f_rowL) | (with_reducible apply f_byte; decide))); done))) | ((with_reducible apply chle_eq); (focus (first | (simp only [push_cast, seval]; rfl) | rfl)); (first | with_reducible exact chle_rfl rfl | with_reducible exact chle_map0 | with_reducible apply chle_vec | with_reducible apply chle_box)) | (with_reducible first | apply ct9 | apply ct8 | apply ct7 | apply ct6 | apply ct10 | apply r_shS | apply r_shI | apply r_rflO | apply r_oneO | apply r_appO | apply r_nilO | apply c_ownN | apply c_ownL | apply vc_rfl | apply vc_nil | apply vc_cons | apply r_rfl | apply r_rows | apply r_nil | apply r_app | apply r_cons | apply c_rowI | apply c_rowY | apply c_rowS | apply c_rowB | apply c_rowL))); done)))))
noncomputable def m54 (x0 : Int) : Option (Bool) := (w15.1 x0).1
theorem s50 (x0 : Int) : ∀ r, m54 x0 = some r → PureSpec Tryz.prog 53 [.int .i64 x0] (.bool r) := (w15.1 x0).2
noncomputable def m55 (x0 : List T9) (f1 : FuncId) (c1 : List DV) (p1 : T9 → Option (Bool)) (h1 : ∀ a0 r, p1 a0 = some r → PureSpec Tryz.prog f1 ([.agg (r13 a0)] ++ c1) (.bool r)) : Option (Bool) := (w15.2.1 x0 f1 c1 p1 h1).1
theorem s51 (x0 : List T9) (f1 : FuncId) (c1 : List DV) (p1 : T9 → Option (Bool)) (h1 : ∀ a0 r, p1 a0 = some r → PureSpec Tryz.prog f1 ([.agg (r13 a0)] ++ c1) (.bool r)) : ∀ r, m55 x0 f1 c1 p1 h1 = some r → PureSpec Tryz.prog 89 [.slice (List.map r13 x0), .fn f1 c1] (.bool r) := (w15.2.1 x0 f1 c1 p1 h1).2
noncomputable def m56 (x0 : List T8) (f1 : FuncId) (c1 : List DV) (p1 : T8 → Option (Bool)) (h1 : ∀ a0 r, p1 a0 = some r → PureSpec Tryz.prog f1 ([.agg (r12 a0)] ++ c1) (.bool r)) : Option (Bool) := (w15.2.2.1 x0 f1 c1 p1 h1).1
theorem s52 (x0 : List T8) (f1 : FuncId) (c1 : List DV) (p1 : T8 → Option (Bool)) (h1 : ∀ a0 r, p1 a0 = some r → PureSpec Tryz.prog f1 ([.agg (r12 a0)] ++ c1) (.bool r)) : ∀ r, m56 x0 f1 c1 p1 h1 = some r → PureSpec Tryz.prog 128 [.slice (List.map r12 x0), .fn f1 c1] (.bool r) := (w15.2.2.1 x0 f1 c1 p1 h1).2
noncomputable def m57 (x0 : Int) : Option (Bool) := (w15.2.2.2.1 x0).1
theorem s53 (x0 : Int) : ∀ r, m57 x0 = some r → PureSpec Tryz.prog 156 [.int .i64 x0] (.bool r) := (w15.2.2.2.1 x0).2
noncomputable def m58 (x0 : Int) : Option (Int) := (w15.2.2.2.2.1 x0).1
theorem s54 (x0 : Int) : ∀ r, m58 x0 = some r → PureSpec Tryz.prog 131 [.int .i64 x0] (.fn 132 [.ptr (rowI r)]) := (w15.2.2.2.2.1 x0).2
noncomputable def m59 (x0 : List Int) (f1 : FuncId) (c1 : List DV) (p1 : Int → Option (Bool)) (h1 : ∀ a0 r, p1 a0 = some r → PureSpec Tryz.prog f1 ([.int .i64 a0] ++ c1) (.bool r)) : Option (Bool) := (w15.2.2.2.2.2.1 x0 f1 c1 p1 h1).1
theorem s55 (x0 : List Int) (f1 : FuncId) (c1 : List DV) (p1 : Int → Option (Bool)) (h1 : ∀ a0 r, p1 a0 = some r → PureSpec Tryz.prog f1 ([.int .i64 a0] ++ c1) (.bool r)) : ∀ r, m59 x0 f1 c1 p1 h1 = some r → PureSpec Tryz.prog 133 [.slice (List.map rowI x0), .fn f1 c1] (.bool r) := (w15.2.2.2.2.2.1 x0 f1 c1 p1 h1).2
noncomputable def m60 (x0 : Int) : Option (Bool) := (w15.2.2.2.2.2.2.1 x0).1
theorem s56 (x0 : Int) : ∀ r, m60 x0 = some r → PureSpec Tryz.prog 62 [.int .i64 x0] (.bool r) := (w15.2.2.2.2.2.2.1 x0).2
noncomputable def m61 (x0 : List T7) : Option (Int) := (w15.2.2.2.2.2.2.2.1 x0).1
theorem s57 (x0 : List T7) : ∀ r, m61 x0 = some r → PureSpec Tryz.prog 134 [.slice (List.map r11 x0)] (.int .i64 r) := (w15.2.2.2.2.2.2.2.1 x0).2
noncomputable def m62 (x0 : T9) : Option (Int) := (w15.2.2.2.2.2.2.2.2.1 x0).1
theorem s58 (x0 : T9) : ∀ r, m62 x0 = some r → PureSpec Tryz.prog 99 [.agg (r13 x0)] (.int .i64 r) := (w15.2.2.2.2.2.2.2.2.1 x0).2
noncomputable def m63 (x0 : T10) : Option (Int) := (w15.2.2.2.2.2.2.2.2.2 x0).1
theorem s59 (x0 : T10) : ∀ r, m63 x0 = some r → PureSpec Tryz.prog 64 [.agg (r14 x0)] (.int .i64 r) := (w15.2.2.2.2.2.2.2.2.2 x0).2
def c135 : SC :=
  (.seq (.reg [.r 11 (.bin .lss (.t 10) (.t 9))])
  (.seq (.cond (.t 11)
    .skip
    (.exit 0))
  (.seq (.block 1 (.seq (.reg [.r 12 (.mv (.t 10)),
       .r 13 (.idx 6 (.t 8) (.t 10)),
       .o 14 (.ldA 6 (.t 13)),
       .w 4 (.boxM (.c (.agg [.d (.int .i64 0), .d (.int .i64 0), .d (.int .i64 0), .d (.int .i64 0), .d (.int .i64 0), .d (.str [])]))),
       .r 3 (.mv (.t 12)),
       .w 0 (.st 6 (.t 4) (.t 14))])
    (.block 2 (.seq (.reg [.r 16 (.fld 0 (.t 4)),
         .o 17 (.ld1 (.t 16)),
         .c 18 (.f 156) [.t 17],
         .r 19 (.not (.t 18)),
         .r 15 (.mv (.t 19))])
      (.cond (.t 15)
        (.seq (.reg [.r 2 (.mv (.c (.d (.int .i64 4))))])
        .ret)
        (.seq (.reg (.r 21 (.fld 1 (.t 4)) :: .o 22 (.ld1 (.t 21)) :: .c 23 (.f 40) [.t 22, .c (.d (.int .i64 0)), .c (.d (.int .i64 2000))] :: .r 24 (.mv (.t 23)) :: gapp [25, 26, 27, 28] 24 false (.r 25 (.fld 2 (.t 4)) :: .r 26 (.fld 0 (.t 25)) :: .r 27 (.ld1 (.t 26)) :: .c 28 (.f 40) [.t 27, .c (.d (.int .i64 0)), .c (.d (.int .i64 51))] :: []) (.r 29 (.pick (.t 24) (.c (.d (.bool true))) (.t 28)) :: .r 30 (.mv (.t 29)) :: gapp [31, 32, 33, 34] 30 false (.r 31 (.fld 2 (.t 4)) :: .r 32 (.fld 1 (.t 31)) :: .r 33 (.ld1 (.t 32)) :: .c 34 (.f 40) [.t 33, .c (.d (.int .i64 0)), .c (.d (.int .i64 21))] :: []) (.r 35 (.pick (.t 30) (.c (.d (.bool true))) (.t 34)) :: .r 36 (.mv (.t 35)) :: gapp [37, 38, 39, 40] 36 false (.r 37 (.fld 2 (.t 4)) :: .r 38 (.fld 2 (.t 37)) :: .r 39 (.ld1 (.t 38)) :: .c 40 (.f 40) [.t 39, .c (.d (.int .i64 0)), .c (.d (.int .i64 21))] :: []) (.r 41 (.pick (.t 36) (.c (.d (.bool true))) (.t 40)) :: .r 20 (.mv (.t 41)) :: [])))))
        (.cond (.t 20)
          (.seq (.reg [.r 2 (.mv (.c (.d (.int .i64 1))))])
          .ret)
          (.seq (.reg (.r 43 (.fld 5 (.t 4)) :: .o 44 (.ld1 (.t 43)) :: .r 45 (.bin .neq (.t 44) (.c (.d (.str [])))) :: .r 46 (.mv (.t 45)) :: gapp [47, 48, 49, 50] 46 true (.r 47 (.fld 5 (.t 4)) :: .r 48 (.ld1 (.t 47)) :: .c 49 (.f 139) [.t 48] :: .r 50 (.not (.t 49)) :: []) (.r 51 (.pick (.t 46) (.t 50) (.c (.d (.bool false)))) :: .r 52 (.mv (.t 51)) :: gapp [53, 54, 55, 56] 52 true (.r 53 (.fld 5 (.t 4)) :: .r 54 (.ld1 (.t 53)) :: .c 55 (.f 38) [.t 54] :: .r 56 (.not (.t 55)) :: []) (.r 57 (.pick (.t 52) (.t 56) (.c (.d (.bool false)))) :: .r 42 (.mv (.t 57)) :: []))))
          (.cond (.t 42)
            (.seq (.reg [.r 2 (.mv (.c (.d (.int .i64 3))))])
            .ret)
            (.seq (.regD (.r 59 (.mv (.t 3)) :: .r 60 (.bin .gtr (.t 59) (.c (.d (.int .i64 0)))) :: .r 61 (.mv (.t 60)) :: gapp [62, 63, 64, 65, 66, 67, 68, 69, 70] 61 true (.r 62 (.fld 1 (.t 4)) :: .r 63 (.ld1 (.t 62)) :: .r 64 (.mv (.t 0)) :: .r 65 (.mv (.t 3)) :: .r 66 (.bin .sub (.t 65) (.c (.d (.int .i64 1)))) :: .r 67 (.idx 6 (.t 64) (.t 66)) :: .r 68 (.fld 1 (.t 67)) :: .r 69 (.ld1 (.t 68)) :: .r 70 (.bin .lss (.t 63) (.t 69)) :: []) (.r 71 (.pick (.t 61) (.t 70) (.c (.d (.bool false)))) :: .r 58 (.mv (.t 71)) :: [])))
            (.cond (.t 58)
              (.seq (.reg [.r 2 (.mv (.c (.d (.int .i64 8))))])
              .ret)
              .skip)))))))))))
  (.reg [.r 72 (.bin .add (.t 10) (.c (.d (.int .i64 1)))),
     .r 10 (.mv (.t 72))]))))
def c136 : SC := .block 0 (.loop c135)
def c137 : SC :=
  (.seq (.reg [.r 2 (.mv (.c (.d (.int .i64 0))))])
  (.seq (.seq (.reg [.r 5 (.mv (.t 0)),
     .r 6 (.len (.t 5)),
     .r 7 (.bin .gtr (.t 6) (.c (.d (.int .i64 500))))])
  (.cond (.t 7)
    (.seq (.reg [.r 2 (.mv (.c (.d (.int .i64 2))))])
    .ret)
    .skip))
  (.seq (.seq (.reg [.r 8 (.mv (.t 0)),
     .r 9 (.len (.t 8)),
     .r 10 (.mv (.c (.d (.int .i64 0))))])
  c136)
  (.seq (.reg [.r 2 (.mv (.c (.d (.int .i64 0))))])
  .ret))))
theorem k66 : fits Tryz.prog 130 Tryz.f130 c137 [.t 2] 1 = true := by kernel_rfl
def c138 : SC :=
  (.seq (.reg [.r 2 (.mv (.c (.d (.int .i64 0))))])
  (.seq (.reg [.r 3 (.mv (.f 131))])
  (.seq (.block 0 (.seq (.reg [.r 5 (.mv (.t 0)),
       .r 6 (.mv (.t 3)),
       .c 7 (.t 6) [.c (.d (.int .i64 1))],
       .c 8 (.f 133) [.t 5, .t 7],
       .r 9 (.not (.t 8)),
       .r 4 (.mv (.t 9))])
    (.cond (.t 4)
      (.seq (.reg [.r 2 (.mv (.c (.d (.int .i64 1))))])
      .ret)
      (.seq (.reg [.r 11 (.mv (.t 0)),
         .r 12 (.mv (.t 3)),
         .c 13 (.t 12) [.c (.d (.int .i64 3))],
         .c 14 (.f 133) [.t 11, .t 13],
         .r 15 (.not (.t 14)),
         .r 10 (.mv (.t 15))])
      (.cond (.t 10)
        (.seq (.reg [.r 2 (.mv (.c (.d (.int .i64 3))))])
        .ret)
        .skip)))))
  (.seq (.reg [.r 2 (.mv (.c (.d (.int .i64 2))))])
  .ret))))
theorem k67 : fits Tryz.prog 93 Tryz.f93 c138 [.t 2] 1 = true := by kernel_rfl
def c139 : SC :=
  (.seq (.seq (.reg [.r 21 (.mv (.t 6)),
     .r 22 (.mv (.t 1)),
     .r 23 (.bin .lss (.t 21) (.t 22))])
  (.cond (.t 23)
    .skip
    (.exit 0)))
  (.seq (.block 1 (.seq (.regD [.r 26 (.mv (.t 0)),
       .r 27 (.mv (.t 6)),
       .r 28 (.idx 5 (.t 26) (.t 27)),
       .r 29 (.fld 0 (.t 28)),
       .r 30 (.ld1 (.t 29)),
       .r 31 (.fld 0 (.t 5)),
       .r 32 (.ld1 (.t 31)),
       .r 33 (.bin .eql (.t 30) (.t 32))])
    (.cond (.t 33)
      (.seq (.reg [.r 4 (.mv (.c (.d (.int .i64 7))))])
      .ret)
      .skip)))
  (.reg [.r 24 (.mv (.t 6)),
     .r 25 (.bin .add (.t 24) (.c (.d (.int .i64 1)))),
     .r 6 (.mv (.t 25))])))
def c140 : SC := .block 0 (.loop c139)
def c141 : SC :=
  (.seq (.seq (.reg [.r 63 (.mv (.t 8)),
     .r 64 (.fld 4 (.t 5)),
     .o 65 (.ld1 (.t 64)),
     .r 66 (.len (.t 65)),
     .r 67 (.bin .lss (.t 63) (.t 66))])
  (.cond (.t 67)
    .skip
    (.exit 2)))
  (.seq (.block 3 (.seq (.seq (.reg [.r 70 (.fld 4 (.t 5)),
       .o 71 (.ld1 (.t 70)),
       .r 72 (.mv (.t 8)),
       .r 73 (.idx 1 (.t 71) (.t 72)),
       .o 74 (.ld1 (.t 73)),
       .c 75 (.f 44) [.t 74],
       .r 76 (.not (.t 75))])
    (.cond (.t 76)
      (.seq (.reg [.r 4 (.mv (.c (.d (.int .i64 5))))])
      .ret)
      .skip))
    (.seq (.regD (.r 77 (.mv (.t 8)) :: .r 78 (.bin .gtr (.t 77) (.c (.d (.int .i64 0)))) :: .r 79 (.mv (.t 78)) :: gapp [80, 81, 82, 83, 84, 85, 86, 87, 88, 89, 90, 91] 79 true (.r 80 (.fld 4 (.t 5)) :: .r 81 (.ld1 (.t 80)) :: .r 82 (.mv (.t 8)) :: .r 83 (.idx 1 (.t 81) (.t 82)) :: .r 84 (.ld1 (.t 83)) :: .r 85 (.fld 4 (.t 5)) :: .r 86 (.ld1 (.t 85)) :: .r 87 (.mv (.t 8)) :: .r 88 (.bin .sub (.t 87) (.c (.d (.int .i64 1)))) :: .r 89 (.idx 1 (.t 86) (.t 88)) :: .r 90 (.ld1 (.t 89)) :: .r 91 (.bin .leq (.t 84) (.t 90)) :: []) (.r 92 (.pick (.t 79) (.t 91) (.c (.d (.bool false)))) :: [])))
    (.cond (.t 92)
      (.seq (.reg [.r 4 (.mv (.c (.d (.int .i64 8))))])
      .ret)
      .skip))))
  (.reg [.r 68 (.mv (.t 8)),
     .r 69 (.bin .add (.t 68) (.c (.d (.int .i64 1)))),
     .r 8 (.mv (.t 69))])))
def c142 : SC := .block 2 (.loop c141)
def c143 : SC :=
  (.seq (.reg [.r 4 (.mv (.c (.d (.int .i64 0))))])
  (.seq (.reg [.r 9 (.mv (.t 0)),
     .r 10 (.mv (.t 1)),
     .r 11 (.idx 5 (.t 9) (.t 10)),
     .o 12 (.ldA 5 (.t 11)),
     .w 5 (.boxM (.c (.agg [.d (.str []), .d (.int .i64 0), .d (.bool false), .nils, .nils]))),
     .w 0 (.st 5 (.t 5) (.t 12))])
  (.seq (.seq (.reg [.r 13 (.fld 0 (.t 5)),
     .o 14 (.ld1 (.t 13)),
     .c 15 (.f 43) [.t 14],
     .r 16 (.not (.t 15))])
  (.cond (.t 16)
    (.seq (.reg [.r 4 (.mv (.c (.d (.int .i64 3))))])
    .ret)
    .skip))
  (.seq (.seq (.reg [.r 17 (.fld 1 (.t 5)),
     .o 18 (.ld1 (.t 17)),
     .c 19 (.f 62) [.t 18],
     .r 20 (.not (.t 19))])
  (.cond (.t 20)
    (.seq (.reg [.r 4 (.mv (.c (.d (.int .i64 4))))])
    .ret)
    .skip))
  (.seq (.seq (.reg [.r 6 (.mv (.c (.d (.int .i64 0))))])
  c140)
  (.seq (.seq (.reg (.r 34 (.fld 2 (.t 5)) :: .o 35 (.ld1 (.t 34)) :: .r 36 (.mv (.t 35)) :: gapp [37, 38, 39, 40, 41, 42, 43, 44, 45, 46, 47, 48, 49, 50, 51] 36 true (.r 37 (.fld 1 (.t 5)) :: .r 38 (.ld1 (.t 37)) :: .r 39 (.bin .neq (.t 38) (.c (.d (.int .i64 3)))) :: .r 40 (.mv (.t 39)) :: gapp [41, 42, 43, 44] 40 false (.r 41 (.fld 3 (.t 5)) :: .r 42 (.ld1 (.t 41)) :: .r 43 (.len (.t 42)) :: .r 44 (.bin .gtr (.t 43) (.c (.d (.int .i64 0)))) :: []) (.r 45 (.pick (.t 40) (.c (.d (.bool true))) (.t 44)) :: .r 46 (.mv (.t 45)) :: gapp [47, 48, 49, 50] 46 false (.r 47 (.fld 4 (.t 5)) :: .r 48 (.ld1 (.t 47)) :: .r 49 (.len (.t 48)) :: .r 50 (.bin .gtr (.t 49) (.c (.d (.int .i64 0)))) :: []) (.r 51 (.pick (.t 46) (.c (.d (.bool true))) (.t 50)) :: []))) (.r 52 (.pick (.t 36) (.t 51) (.c (.d (.bool false)))) :: [])))
  (.cond (.t 52)
    (.seq (.reg [.r 4 (.mv (.c (.d (.int .i64 12))))])
    .ret)
    .skip))
  (.seq (.seq (.reg [.r 53 (.fld 3 (.t 5)),
     .o 54 (.ld1 (.t 53)),
     .c 55 (.f 134) [.t 54],
     .r 7 (.mv (.t 55))])
  (.seq (.reg [.r 56 (.mv (.t 7)),
     .r 57 (.bin .neq (.t 56) (.c (.d (.int .i64 0))))])
  (.cond (.t 57)
    (.seq (.reg [.r 58 (.mv (.t 7)),
       .r 4 (.mv (.t 58))])
    .ret)
    .skip)))
  (.seq (.seq (.reg [.r 59 (.fld 4 (.t 5)),
     .o 60 (.ld1 (.t 59)),
     .r 61 (.len (.t 60)),
     .r 62 (.bin .gtr (.t 61) (.c (.d (.int .i64 200))))])
  (.cond (.t 62)
    (.seq (.reg [.r 4 (.mv (.c (.d (.int .i64 2))))])
    .ret)
    .skip))
  (.seq (.seq (.reg [.r 8 (.mv (.c (.d (.int .i64 0))))])
  c142)
  (.seq (.seq (.reg (.r 93 (.fld 1 (.t 5)) :: .o 94 (.ld1 (.t 93)) :: .r 95 (.bin .eql (.t 94) (.c (.d (.int .i64 1)))) :: .r 96 (.mv (.t 95)) :: gapp [97, 98, 99, 100, 101, 102, 103, 104, 105, 106] 96 true (.r 97 (.fld 3 (.t 5)) :: .r 98 (.ld1 (.t 97)) :: .r 99 (.len (.t 98)) :: .r 100 (.bin .gtr (.t 99) (.c (.d (.int .i64 0)))) :: .r 101 (.mv (.t 100)) :: gapp [102, 103, 104, 105] 101 false (.r 102 (.fld 4 (.t 5)) :: .r 103 (.ld1 (.t 102)) :: .r 104 (.len (.t 103)) :: .r 105 (.bin .gtr (.t 104) (.c (.d (.int .i64 0)))) :: []) (.r 106 (.pick (.t 101) (.c (.d (.bool true))) (.t 105)) :: [])) (.r 107 (.pick (.t 96) (.t 106) (.c (.d (.bool false)))) :: [])))
  (.cond (.t 107)
    (.seq (.reg [.r 4 (.mv (.c (.d (.int .i64 12))))])
    .ret)
    .skip))
  (.seq (.reg [.r 4 (.mv (.c (.d (.int .i64 0))))])
  .ret)))))))))))
theorem k68 : fits Tryz.prog 98 Tryz.f98 c143 [.t 4] 2 = true := by kernel_rfl
set_option maxRecDepth 100000 in
set_option maxHeartbeats 40000000 in
noncomputable def w16 : (∀ (x0 : List T7), {m : Option (Int) // ∀ r, m = some r → PureSpec Tryz.prog 130 [.slice (List.map r11 x0)] (.int .i64 r)}) × (∀ (x0 : List Int), {m : Option (Int) // ∀ r, m = some r → PureSpec Tryz.prog 93 [.slice (List.map rowI x0)] (.int .i64 r)}) × (∀ (x0 : List T8) (x1 : Int), {m : Option (Int) // ∀ r, m = some r → PureSpec Tryz.prog 98 [.slice (List.map r12 x0), .int .i64 x1] (.int .i64 r)}) := by
  refine ⟨?g0, ?g1, ?g2⟩
  case' g0 => (intro x0; apply Subtype.mk; intro r hm; apply pure_walk Tryz.func130 k66; unfold c137)
  case' g1 => (intro x0; apply Subtype.mk; intro r hm; apply pure_walk Tryz.func93 k67; unfold c138)
  case' g2 => (intro x0 x1; apply Subtype.mk; intro r hm; apply pure_walk Tryz.func98 k68; unfold c143)
  all_goals (repeat' (first | with_reducible refine W_seq ?_ | with_reducible refine W_reg ?_ | with_reducible refine W_regD ?_ | with_reducible refine W_block ?_ | with_reducible refine W_skip ?_ | with_reducible refine W_ret ?_ | with_reducible refine W_exit ?_ | with_reducible refine O_nil ?_ | with_reducible refine K_seq ?_ | with_reducible refine K_seqE ?_ | with_reducible refine K_seqR ?_ | with_reducible refine K_block ?_ | with_reducible refine K_blockR ?_ | with_reducible refine K_blockE ?_ | ((with_reducible apply K_blockN); decide) | with_reducible refine O_o2r ?_ | ((with_reducible apply O_idxr hm); (iterate 2 (simp only [push_cast, seval]; rfl)); (intro _; rfl); intro e hm) | ((with_reducible apply O_idxVr hm); (iterate 3 (simp only [push_cast, seval]; rfl)); intro e hm) | ((with_reducible apply O_r); (simp only [push_cast, seval]; rfl); (first | exact trivial | omega)) | ((with_reducible apply O_ldV1r hm); (iterate 2 (simp only [push_cast, seval]; rfl)); (intro _; rfl); intro e hm) | ((with_reducible apply O_ldAVr hm); (iterate 2 (simp only [push_cast, seval]; rfl)); (intro _; rfl); intro e hm) | ((with_reducible apply O_strr hm); (iterate 2 (simp only [push_cast, seval]; rfl)); intro hm) | ((with_reducible apply O_and hm); (simp only [push_cast, seval]; rfl); rfl; intro v hm; rotate_left; intro v g hm) | ((with_reducible apply O_or hm); (simp only [push_cast, seval]; rfl); rfl; intro v hm; rotate_left; intro v g hm) | ((with_reducible apply W_condT); (focus (simp only [push_cast, seval]; done))) | ((with_reducible apply W_condF); (focus (simp only [push_cast, seval]; done))) | ((with_reducible apply O_cF hm); (simp only [push_cast, seval]; rfl); (first | apply s53 _ | apply s17 _ _ _ | apply s10 _ | apply s30 _ | apply s54 _ | apply s55 _ _ _ _ (fun a0 r h => s46 a0 _ r h) | apply s55 _ _ _ _ (fun a0 r h => s54 a0 r h) | apply s46 _ _ | apply s26 _ | apply s56 _ | apply s57 _ | apply s27 _); (any_goals ((repeat' (first | rfl | (with_reducible first | apply ft8 | apply ft7 | apply ft6 | apply f_optN | apply f_optS | apply f_some | apply f_tup | apply f_agg | apply f_ptr | apply f_fn | apply dv_slice | apply sv_d | apply f_cons | apply fold_nil | apply fold_cons | apply fold_app | apply f_rowI | apply f_rowY | apply f_rowS | apply f_rowB | apply f_rowL) | (with_reducible apply f_byte; decide))); done)); intro x hm) | ((with_reducible apply O_cvS hm); (iterate 2 (simp only [push_cast, seval]; rfl)); (focus (first | exact s53 _ | exact s17 _ _ _ | exact s10 _ | exact s30 _ | exact s54 _ | exact s55 _ _ _ _ (fun a0 r h => s46 a0 _ r h) | exact s55 _ _ _ _ (fun a0 r h => s54 a0 r h) | exact s46 _ _ | exact s26 _ | exact s56 _ | exact s57 _ | exact s27 _)); intro x hm) | ((with_reducible apply O_w); (simp only [push_cast, seval]; rfl); (first | exact trivial | omega)) | ((with_reducible apply O_stVA hm); (iterate 4 (simp only [push_cast, seval]; rfl)); (focus ((repeat' (first | rfl | (with_reducible first | apply ft8 | apply ft7 | apply ft6 | apply f_optN | apply f_optS | apply f_some | apply f_tup | apply f_agg | apply f_ptr | apply f_fn | apply dv_slice | apply sv_d | apply f_cons | apply fold_nil | apply fold_cons | apply fold_app | apply f_rowI | apply f_rowY | apply f_rowS | apply f_rowB | apply f_rowL) | (with_reducible apply f_byte; decide))); done)); decide; (intro _; rfl); intro e hm) | ((with_reducible apply S_condB hm); (simp only [push_cast, seval]; rfl); intro hm; rotate_left; intro hm) | ((with_reducible apply K_endS hm); (focus (simp only [resOf, resL, RV.get, push_cast, seval]; rfl)); (focus ((repeat' (first | rfl | (with_reducible first | apply ft8 | apply ft7 | apply ft6 | apply f_optN | apply f_optS | apply f_some | apply f_tup | apply f_agg | apply f_ptr | apply f_fn | apply dv_slice | apply sv_d | apply f_cons | apply fold_nil | apply fold_cons | apply fold_app | apply f_rowI | apply f_rowY | apply f_rowS | apply f_rowB | apply f_rowL) | (with_reducible apply f_byte; decide))); done))) | ((with_reducible apply K_bool hm); (simp only [push_cast, seval]; rfl)) | ((with_reducible apply K_leave hm); intro r hm) | ((with_reducible apply K_leaveR hm); intro r hm) | ((apply S_loopY (b := 0) (X := c136) (x := c135) rfl (fun (c : SV × SV × SV) (s : Int) => st [(0, c.1), (8, c.2.1), (9, c.2.2), (10, .d (.int .i64 s))] []) (c := (_, _, _)) (s0 := _) hm); (focus (first | (dsimp only; done) | (dsimp only; rfl) | rfl)); (with_reducible refine Then.mk ?_ ?_)) | ((apply S_loopY (b := 0) (X := c140) (x := c139) rfl (fun (c : SV × SV × Ch) (s : Int) => st [(0, c.1), (1, c.2.1), (5, .ref 5 0), (6, .d (.int .i64 s))] [(5, c.2.2)]) (c := (_, _, _)) (s0 := _) hm); (focus (first | (dsimp only; done) | (dsimp only; rfl) | rfl)); (with_reducible refine Then.mk ?_ ?_)) | ((apply S_loopY (b := 2) (X := c142) (x := c141) rfl (fun (c : Ch) (s : Int) => st [(5, .ref 5 0), (8, .d (.int .i64 s))] [(5, c)]) (c := _) (s0 := _) hm); (focus (first | (dsimp only; done) | (dsimp only; rfl) | rfl)); (with_reducible refine Then.mk ?_ ?_)) | ((apply K_next (s' := _) hm); (focus (first | (dsimp only; done) | (dsimp only; rfl) | rfl))) | ((apply K_brk (s' := _) hm); (focus (first | (dsimp only; done) | (dsimp only; rfl) | rfl))) | (((with_reducible apply K_brkN hm); (focus decide); intro r hm)) | (((with_reducible apply K_brkR hm); intro r hm)) | (((with_reducible apply LoopB.of); (focus (first | (dsimp only; done) | (dsimp only; rfl) | rfl)); (focus ((intro _; repeat' (first | with_reducible exact impC_end | with_reducible exact impC_endF | with_reducible refine impC_seq ?_ | with_reducible refine impC_block ?_ | ((with_reducible refine impC_rnd ?_); intro _) | ((with_reducible refine impC_brk ?_); intro _))))); (intro s o hm; first | unfold c135 | unfold c139 | unfold c141); rotate_left; intro s hm)) | (((apply imp_stT; (repeat' (first | with_reducible exact keepT_nil | with_reducible exact keepC_nil | with_reducible apply keepT_cons | with_reducible apply keepC_cons | ((with_reducible apply svle_eq); (focus (first | (simp only [push_cast, seval]; rfl) | rfl)); (focus ((repeat' (first | rfl | (with_reducible first | apply ft8 | apply ft7 | apply ft6 | apply f_optN | apply f_optS | apply f_some | apply f_tup | apply f_agg | apply f_ptr | apply f_fn | apply dv_slice | apply sv_d | apply f_cons | apply fold_nil | apply fold_cons | apply fold_app | apply f_rowI | apply f_rowY | apply f_rowS | apply f_rowB | apply f_rowL) | (with_reducible apply f_byte; decide))); done))) | ((with_reducible apply svle_td); (focus (first | (simp only [push_cast, seval]; rfl) | rfl)); (focus (first | (simp only [push_cast, seval]; rfl) | rfl)); (focus ((repeat' (first | rfl | (with_reducible first | apply ft8 | apply ft7 | apply ft6 | apply f_optN | apply f_optS | apply f_some | apply f_tup | apply f_agg | apply f_ptr | apply f_fn | apply dv_slice | apply sv_d | apply f_cons | apply fold_nil | apply fold_cons | apply fold_app | apply f_rowI | apply f_rowY | apply f_rowS | apply f_rowB | apply f_rowL) | (with_reducible apply f_byte; decide))); done))) | ((with_reducible apply chle_eq); (focus (first | (simp only [push_cast, seval]; rfl) | rfl)); (first | with_reducible exact chle_rfl rfl | with_reducible exact chle_map0 | with_reducible apply chle_vec | with_reducible apply chle_box)) | (with_reducible first | apply ct8 | apply ct7 | apply ct6 | apply r_shS | apply r_shI | apply r_rflO | apply r_oneO | apply r_appO | apply r_nilO | apply c_ownN | apply c_ownL | apply vc_rfl | apply vc_nil | apply vc_cons | apply r_rfl | apply r_rows | apply r_nil | apply r_app | apply r_cons | apply c_rowI | apply c_rowY | apply c_rowS | apply c_rowB | apply c_rowL))); done)))))
noncomputable def m64 (x0 : List T7) : Option (Int) := (w16.1 x0).1
theorem s60 (x0 : List T7) : ∀ r, m64 x0 = some r → PureSpec Tryz.prog 130 [.slice (List.map r11 x0)] (.int .i64 r) := (w16.1 x0).2
noncomputable def m65 (x0 : List Int) : Option (Int) := (w16.2.1 x0).1
theorem s61 (x0 : List Int) : ∀ r, m65 x0 = some r → PureSpec Tryz.prog 93 [.slice (List.map rowI x0)] (.int .i64 r) := (w16.2.1 x0).2
noncomputable def m66 (x0 : List T8) (x1 : Int) : Option (Int) := (w16.2.2 x0 x1).1
theorem s62 (x0 : List T8) (x1 : Int) : ∀ r, m66 x0 x1 = some r → PureSpec Tryz.prog 98 [.slice (List.map r12 x0), .int .i64 x1] (.int .i64 r) := (w16.2.2 x0 x1).2
def c144 : SC :=
  (.seq (.reg [.r 58 (.bin .lss (.t 57) (.t 56))])
  (.seq (.cond (.t 58)
    .skip
    (.exit 1))
  (.seq (.block 2 (.seq (.reg [.r 59 (.mv (.t 57)),
       .r 60 (.idx 1 (.t 55) (.t 57)),
       .o 61 (.ld1 (.t 60)),
       .r 7 (.mv (.t 59)),
       .r 8 (.mv (.t 61))])
    (.seq (.seq (.reg [.r 62 (.mv (.t 8)),
       .c 63 (.f 38) [.t 62],
       .r 64 (.not (.t 63))])
    (.cond (.t 64)
      (.seq (.reg [.r 4 (.mv (.c (.d (.int .i64 5))))])
      .ret)
      .skip))
    (.seq (.reg (.r 65 (.mv (.t 7)) :: .r 66 (.bin .gtr (.t 65) (.c (.d (.int .i64 0)))) :: .r 67 (.mv (.t 66)) :: gapp [68, 69, 70, 71, 72, 73, 74, 75] 67 true (.r 68 (.mv (.t 8)) :: .r 69 (.fld 4 (.t 2)) :: .r 70 (.ld1 (.t 69)) :: .r 71 (.mv (.t 7)) :: .r 72 (.bin .sub (.t 71) (.c (.d (.int .i64 1)))) :: .r 73 (.idx 1 (.t 70) (.t 72)) :: .r 74 (.ld1 (.t 73)) :: .r 75 (.bin .leq (.t 68) (.t 74)) :: []) (.r 76 (.pick (.t 67) (.t 75) (.c (.d (.bool false)))) :: [])))
    (.cond (.t 76)
      (.seq (.reg [.r 4 (.mv (.c (.d (.int .i64 8))))])
      .ret)
      .skip)))))
  (.reg [.r 77 (.bin .add (.t 57) (.c (.d (.int .i64 1)))),
     .r 57 (.mv (.t 77))]))))
def c145 : SC := .block 1 (.loop c144)
def c146 : SC :=
  (.seq (.reg [.r 2 (.boxI (.t 0)),
     .r 4 (.mv (.c (.d (.int .i64 0))))])
  (.seq (.reg (.r 9 (.fld 3 (.t 2)) :: .o 10 (.ld1 (.t 9)) :: .r 11 (.len (.t 10)) :: .r 12 (.bin .gtr (.t 11) (.c (.d (.int .i64 0)))) :: .r 13 (.mv (.t 12)) :: gapp [14, 15, 16, 17] 13 false (.r 14 (.fld 4 (.t 2)) :: .r 15 (.ld1 (.t 14)) :: .r 16 (.len (.t 15)) :: .r 17 (.bin .gtr (.t 16) (.c (.d (.int .i64 0)))) :: []) (.r 18 (.pick (.t 13) (.c (.d (.bool true))) (.t 17)) :: .r 5 (.mv (.t 18)) :: [])))
  (.seq (.block 0 (.seq (.reg [.r 20 (.fld 0 (.t 2)),
       .o 21 (.ld1 (.t 20)),
       .c 22 (.f 37) [.t 21],
       .r 23 (.not (.t 22)),
       .r 19 (.mv (.t 23))])
    (.cond (.t 19)
      (.seq (.reg [.r 4 (.mv (.c (.d (.int .i64 3))))])
      .ret)
      (.seq (.reg [.r 25 (.fld 1 (.t 2)),
         .o 26 (.ld1 (.t 25)),
         .c 27 (.f 53) [.t 26],
         .r 28 (.not (.t 27)),
         .r 24 (.mv (.t 28))])
      (.cond (.t 24)
        (.seq (.reg [.r 4 (.mv (.c (.d (.int .i64 4))))])
        .ret)
        (.seq (.reg [.r 30 (.mv (.t 1)),
           .r 31 (.mkfn 129 [.t 2]),
           .c 32 (.f 128) [.t 30, .t 31],
           .r 29 (.mv (.t 32))])
        (.cond (.t 29)
          (.seq (.reg [.r 4 (.mv (.c (.d (.int .i64 7))))])
          .ret)
          (.seq (.reg (.r 34 (.fld 2 (.t 2)) :: .o 35 (.ld1 (.t 34)) :: .r 36 (.mv (.t 35)) :: gapp [37, 38, 39, 40, 41, 42] 36 true (.r 37 (.fld 1 (.t 2)) :: .r 38 (.ld1 (.t 37)) :: .r 39 (.bin .neq (.t 38) (.c (.d (.int .i64 3)))) :: .r 40 (.mv (.t 39)) :: gapp [41] 40 false (.r 41 (.mv (.t 5)) :: []) (.r 42 (.pick (.t 40) (.c (.d (.bool true))) (.t 41)) :: [])) (.r 43 (.pick (.t 36) (.t 42) (.c (.d (.bool false)))) :: .r 33 (.mv (.t 43)) :: [])))
          (.cond (.t 33)
            (.seq (.reg [.r 4 (.mv (.c (.d (.int .i64 12))))])
            .ret)
            .skip)))))))))
  (.seq (.seq (.reg [.r 44 (.fld 3 (.t 2)),
     .o 45 (.ld1 (.t 44)),
     .c 46 (.f 130) [.t 45],
     .r 6 (.mv (.t 46))])
  (.seq (.reg [.r 47 (.mv (.t 6)),
     .r 48 (.bin .neq (.t 47) (.c (.d (.int .i64 0))))])
  (.cond (.t 48)
    (.seq (.reg [.r 49 (.mv (.t 6)),
       .r 4 (.mv (.t 49))])
    .ret)
    .skip)))
  (.seq (.seq (.reg [.r 50 (.fld 4 (.t 2)),
     .o 51 (.ld1 (.t 50)),
     .r 52 (.len (.t 51)),
     .r 53 (.bin .gtr (.t 52) (.c (.d (.int .i64 200))))])
  (.cond (.t 53)
    (.seq (.reg [.r 4 (.mv (.c (.d (.int .i64 2))))])
    .ret)
    .skip))
  (.seq (.seq (.reg [.r 54 (.fld 4 (.t 2)),
     .o 55 (.ld1 (.t 54)),
     .r 56 (.len (.t 55)),
     .r 57 (.mv (.c (.d (.int .i64 0))))])
  c145)
  (.seq (.seq (.reg (.r 78 (.fld 1 (.t 2)) :: .o 79 (.ld1 (.t 78)) :: .r 80 (.bin .eql (.t 79) (.c (.d (.int .i64 1)))) :: .r 81 (.mv (.t 80)) :: gapp [82] 81 true (.r 82 (.mv (.t 5)) :: []) (.r 83 (.pick (.t 81) (.t 82) (.c (.d (.bool false)))) :: [])))
  (.cond (.t 83)
    (.seq (.reg [.r 4 (.mv (.c (.d (.int .i64 12))))])
    .ret)
    .skip))
  (.seq (.reg [.r 4 (.mv (.c (.d (.int .i64 0))))])
  .ret))))))))
theorem k69 : fits Tryz.prog 91 Tryz.f91 c146 [.t 4] 2 = true := by kernel_rfl
def c147 : SC :=
  (.seq (.reg [.r 10 (.bin .lss (.t 9) (.t 8))])
  (.seq (.cond (.t 10)
    .skip
    (.exit 0))
  (.seq (.block 1 (.seq (.reg [.r 11 (.idx 5 (.t 7) (.t 9)),
       .o 12 (.ldA 5 (.t 11)),
       .w 5 (.boxM (.c (.agg [.d (.str []), .d (.int .i64 0), .d (.bool false), .nils, .nils]))),
       .w 0 (.st 5 (.t 5) (.t 12))])
    (.reg [.r 13 (.mv (.t 3)),
       .r 14 (.fld 1 (.t 5)),
       .o 15 (.ld1 (.t 14)),
       .r 16 (.bslice 1 [.t 15]),
       .w 17 (.app 3 1 (.t 13) (.t 16)),
       .r 3 (.mv (.t 17))])))
  (.reg [.r 18 (.bin .add (.t 9) (.c (.d (.int .i64 1)))),
     .r 9 (.mv (.t 18))]))))
def c148 : SC := .block 0 (.loop c147)
def c149 : SC :=
  (.seq (.reg [.r 1 (.boxI (.t 0)),
     .r 2 (.mv (.c (.d (.int .i64 0))))])
  (.seq (.reg [.r 3 (.mv (.c (.nils)))])
  (.seq (.seq (.reg [.r 6 (.fld 2 (.t 1)),
     .o 7 (.ld1 (.t 6)),
     .r 8 (.len (.t 7)),
     .r 9 (.mv (.c (.d (.int .i64 0))))])
  c148)
  (.seq (.reg [.r 19 (.mv (.t 3)),
     .c 20 (.f 93) [.t 19],
     .r 2 (.mv (.t 20))])
  .ret))))
theorem k70 : fits Tryz.prog 92 Tryz.f92 c149 [.t 2] 1 = true := by kernel_rfl
def c150 : SC :=
  (.seq (.reg [.r 10 (.bin .lss (.t 9) (.t 8))])
  (.seq (.cond (.t 10)
    .skip
    (.exit 0))
  (.seq (.block 1 (.seq (.reg [.r 11 (.idx 3 (.t 7) (.t 9)),
       .o 12 (.ldA 3 (.t 11)),
       .w 5 (.boxM (.c (.agg [.d (.str []), .d (.int .i64 0), .nils]))),
       .w 0 (.st 3 (.t 5) (.t 12))])
    (.reg [.r 13 (.mv (.t 3)),
       .r 14 (.fld 1 (.t 5)),
       .o 15 (.ld1 (.t 14)),
       .r 16 (.bslice 1 [.t 15]),
       .w 17 (.app 3 1 (.t 13) (.t 16)),
       .r 3 (.mv (.t 17))])))
  (.reg [.r 18 (.bin .add (.t 9) (.c (.d (.int .i64 1)))),
     .r 9 (.mv (.t 18))]))))
def c151 : SC := .block 0 (.loop c150)
def c152 : SC :=
  (.seq (.reg [.r 1 (.boxI (.t 0)),
     .r 2 (.mv (.c (.d (.int .i64 0))))])
  (.seq (.reg [.r 3 (.mv (.c (.nils)))])
  (.seq (.seq (.reg [.r 6 (.fld 2 (.t 1)),
     .o 7 (.ld1 (.t 6)),
     .r 8 (.len (.t 7)),
     .r 9 (.mv (.c (.d (.int .i64 0))))])
  c151)
  (.seq (.reg [.r 19 (.mv (.t 3)),
     .c 20 (.f 93) [.t 19],
     .r 2 (.mv (.t 20))])
  .ret))))
theorem k71 : fits Tryz.prog 55 Tryz.f55 c152 [.t 2] 1 = true := by kernel_rfl
def c153 : SC :=
  (.seq (.seq (.reg [.r 21 (.mv (.t 6)),
     .r 22 (.mv (.t 1)),
     .r 23 (.bin .lss (.t 21) (.t 22))])
  (.cond (.t 23)
    .skip
    (.exit 0)))
  (.seq (.block 1 (.seq (.regD [.r 26 (.mv (.t 0)),
       .r 27 (.mv (.t 6)),
       .r 28 (.idx 3 (.t 26) (.t 27)),
       .r 29 (.fld 0 (.t 28)),
       .r 30 (.ld1 (.t 29)),
       .r 31 (.fld 0 (.t 5)),
       .r 32 (.ld1 (.t 31)),
       .r 33 (.bin .eql (.t 30) (.t 32))])
    (.cond (.t 33)
      (.seq (.reg [.r 4 (.mv (.c (.d (.int .i64 7))))])
      .ret)
      .skip)))
  (.reg [.r 24 (.mv (.t 6)),
     .r 25 (.bin .add (.t 24) (.c (.d (.int .i64 1)))),
     .r 6 (.mv (.t 25))])))
def c154 : SC := .block 0 (.loop c153)
def c155 : SC :=
  (.seq (.seq (.reg [.r 34 (.mv (.t 7)),
     .r 35 (.fld 2 (.t 5)),
     .o 36 (.ld1 (.t 35)),
     .r 37 (.len (.t 36)),
     .r 38 (.bin .lss (.t 34) (.t 37))])
  (.cond (.t 38)
    .skip
    (.exit 2)))
  (.seq (.block 3 (.seq (.reg [.r 41 (.fld 2 (.t 5)),
       .o 42 (.ld1 (.t 41)),
       .r 43 (.mv (.t 7)),
       .c 44 (.f 98) [.t 42, .t 43],
       .r 8 (.mv (.t 44))])
    (.seq (.reg [.r 45 (.mv (.t 8)),
       .r 46 (.bin .neq (.t 45) (.c (.d (.int .i64 0))))])
    (.cond (.t 46)
      (.seq (.reg [.r 47 (.mv (.t 8)),
         .r 4 (.mv (.t 47))])
      .ret)
      .skip))))
  (.reg [.r 39 (.mv (.t 7)),
     .r 40 (.bin .add (.t 39) (.c (.d (.int .i64 1)))),
     .r 7 (.mv (.t 40))])))
def c156 : SC := .block 2 (.loop c155)
def c157 : SC :=
  (.seq (.reg [.r 4 (.mv (.c (.d (.int .i64 0))))])
  (.seq (.reg [.r 9 (.mv (.t 0)),
     .r 10 (.mv (.t 1)),
     .r 11 (.idx 3 (.t 9) (.t 10)),
     .o 12 (.ldA 3 (.t 11)),
     .w 5 (.boxM (.c (.agg [.d (.str []), .d (.int .i64 0), .nils]))),
     .w 0 (.st 3 (.t 5) (.t 12))])
  (.seq (.seq (.reg [.r 13 (.fld 0 (.t 5)),
     .o 14 (.ld1 (.t 13)),
     .c 15 (.f 43) [.t 14],
     .r 16 (.not (.t 15))])
  (.cond (.t 16)
    (.seq (.reg [.r 4 (.mv (.c (.d (.int .i64 3))))])
    .ret)
    .skip))
  (.seq (.seq (.reg [.r 17 (.fld 1 (.t 5)),
     .o 18 (.ld1 (.t 17)),
     .c 19 (.f 62) [.t 18],
     .r 20 (.not (.t 19))])
  (.cond (.t 20)
    (.seq (.reg [.r 4 (.mv (.c (.d (.int .i64 4))))])
    .ret)
    .skip))
  (.seq (.seq (.reg [.r 6 (.mv (.c (.d (.int .i64 0))))])
  c154)
  (.seq (.seq (.reg [.r 7 (.mv (.c (.d (.int .i64 0))))])
  c156)
  (.seq (.seq (.regD [.r 48 (.fld 1 (.t 5)),
     .r 49 (.ld1 (.t 48)),
     .r 50 (.ldA 3 (.t 5)),
     .c 51 (.f 99) [.t 50],
     .r 52 (.bin .neq (.t 49) (.t 51))])
  (.cond (.t 52)
    (.seq (.reg [.r 4 (.mv (.c (.d (.int .i64 12))))])
    .ret)
    .skip))
  (.seq (.reg [.r 4 (.mv (.c (.d (.int .i64 0))))])
  .ret))))))))
theorem k72 : fits Tryz.prog 63 Tryz.f63 c157 [.t 4] 2 = true := by kernel_rfl
set_option maxRecDepth 100000 in
set_option maxHeartbeats 40000000 in
noncomputable def w17 : (∀ (x0 : T8) (x1 : List T8), {m : Option (Int) // ∀ r, m = some r → PureSpec Tryz.prog 91 [.agg (r12 x0), .slice (List.map r12 x1)] (.int .i64 r)}) × (∀ (x0 : T9), {m : Option (Int) // ∀ r, m = some r → PureSpec Tryz.prog 92 [.agg (r13 x0)] (.int .i64 r)}) × (∀ (x0 : T10), {m : Option (Int) // ∀ r, m = some r → PureSpec Tryz.prog 55 [.agg (r14 x0)] (.int .i64 r)}) × (∀ (x0 : List T9) (x1 : Int), {m : Option (Int) // ∀ r, m = some r → PureSpec Tryz.prog 63 [.slice (List.map r13 x0), .int .i64 x1] (.int .i64 r)}) := by
  refine ⟨?g0, ?g1, ?g2, ?g3⟩
  case' g0 => (intro x0 x1; apply Subtype.mk; intro r hm; apply pure_walk Tryz.func91 k69; unfold c146)
  case' g1 => (intro x0; apply Subtype.mk; intro r hm; apply pure_walk Tryz.func92 k70; unfold c149)
  case' g2 => (intro x0; apply Subtype.mk; intro r hm; apply pure_walk Tryz.func55 k71; unfold c152)
  case' g3 => (intro x0 x1; apply Subtype.mk; intro r hm; apply pure_walk Tryz.func63 k72; unfold c157)
  all_goals (repeat' (first | with_reducible refine W_seq ?_ | with_reducible refine W_reg ?_ | with_reducible refine W_regD ?_ | with_reducible refine W_block ?_ | with_reducible refine W_skip ?_ | with_reducible refine W_ret ?_ | with_reducible refine W_exit ?_ | with_reducible refine O_nil ?_ | with_reducible refine K_seq ?_ | with_reducible refine K_seqE ?_ | with_reducible refine K_seqR ?_ | with_reducible refine K_block ?_ | with_reducible refine K_blockR ?_ | with_reducible refine K_blockE ?_ | ((with_reducible apply K_blockN); decide) | with_reducible refine O_o2r ?_ | ((with_reducible apply O_idxr hm); (iterate 2 (simp only [push_cast, seval]; rfl)); (intro _; rfl); intro e hm) | ((with_reducible apply O_idxVr hm); (iterate 3 (simp only [push_cast, seval]; rfl)); intro e hm) | ((with_reducible apply O_idxLr hm (row := rowI)); (iterate 2 (simp only [push_cast, seval]; rfl)); (focus ((repeat' (first | rfl | (with_reducible first | apply ft9 | apply ft8 | apply ft7 | apply ft6 | apply ft10 | apply f_optN | apply f_optS | apply f_some | apply f_tup | apply f_agg | apply f_ptr | apply f_fn | apply dv_slice | apply sv_d | apply f_cons | apply fold_nil | apply fold_cons | apply fold_app | apply f_rowI | apply f_rowY | apply f_rowS | apply f_rowB | apply f_rowL) | (with_reducible apply f_byte; decide))); done)); (simp only [push_cast, seval]; rfl); (intro _; rfl); intro e hm) | ((with_reducible apply O_r); (simp only [push_cast, seval]; rfl); (first | exact trivial | omega)) | ((with_reducible apply O_ldV1r hm); (iterate 2 (simp only [push_cast, seval]; rfl)); (intro _; rfl); intro e hm) | ((with_reducible apply O_ldAVr hm); (iterate 2 (simp only [push_cast, seval]; rfl)); (intro _; rfl); intro e hm) | ((with_reducible apply O_strr hm); (iterate 2 (simp only [push_cast, seval]; rfl)); intro hm) | ((with_reducible apply O_and hm); (simp only [push_cast, seval]; rfl); rfl; intro v hm; rotate_left; intro v g hm) | ((with_reducible apply O_or hm); (simp only [push_cast, seval]; rfl); rfl; intro v hm; rotate_left; intro v g hm) | ((with_reducible apply W_condT); (focus (simp only [push_cast, seval]; done))) | ((with_reducible apply W_condF); (focus (simp only [push_cast, seval]; done))) | ((with_reducible apply O_cF hm); (simp only [push_cast, seval]; rfl); (first | apply s29 _ | apply s50 _ | apply s52 _ _ _ _ (fun a0 r h => s44 a0 _ r h) | apply s52 _ _ _ _ (fun a0 r h => s29 a0 r h) | apply s52 _ _ _ _ (fun a0 r h => s50 a0 r h) | apply s52 _ _ _ _ (fun a0 r h => s60 a0 r h) | apply s52 _ _ _ _ (fun a0 r h => s30 a0 r h) | apply s60 _ | apply s30 _ | apply s44 _ _ | apply s61 _ | apply s26 _ | apply s56 _ | apply s62 _ _ | apply s58 _); (any_goals ((repeat' (first | rfl | (with_reducible first | apply ft9 | apply ft8 | apply ft7 | apply ft6 | apply ft10 | apply f_optN | apply f_optS | apply f_some | apply f_tup | apply f_agg | apply f_ptr | apply f_fn | apply dv_slice | apply sv_d | apply f_cons | apply fold_nil | apply fold_cons | apply fold_app | apply f_rowI | apply f_rowY | apply f_rowS | apply f_rowB | apply f_rowL) | (with_reducible apply f_byte; decide))); done)); intro x hm) | ((with_reducible apply O_clS hm); (simp only [push_cast, seval]; rfl); (focus (first | exact s29 _ | exact s50 _ | exact s52 _ _ _ _ (fun a0 r h => s44 a0 _ r h) | exact s52 _ _ _ _ (fun a0 r h => s29 a0 r h) | exact s52 _ _ _ _ (fun a0 r h => s50 a0 r h) | exact s52 _ _ _ _ (fun a0 r h => s60 a0 r h) | exact s52 _ _ _ _ (fun a0 r h => s30 a0 r h) | exact s60 _ | exact s30 _ | exact s44 _ _ | exact s61 _ | exact s26 _ | exact s56 _ | exact s62 _ _ | exact s58 _)); (intro _; rfl); intro x hm) | ((with_reducible apply O_cvS hm); (iterate 2 (simp only [push_cast, seval]; rfl)); (focus (first | exact s29 _ | exact s50 _ | exact s52 _ _ _ _ (fun a0 r h => s44 a0 _ r h) | exact s52 _ _ _ _ (fun a0 r h => s29 a0 r h) | exact s52 _ _ _ _ (fun a0 r h => s50 a0 r h) | exact s52 _ _ _ _ (fun a0 r h => s60 a0 r h) | exact s52 _ _ _ _ (fun a0 r h => s30 a0 r h) | exact s60 _ | exact s30 _ | exact s44 _ _ | exact s61 _ | exact s26 _ | exact s56 _ | exact s62 _ _ | exact s58 _)); intro x hm) | ((with_reducible apply O_w); (simp only [push_cast, seval]; rfl); (first | exact trivial | omega)) | ((with_reducible apply O_appL hm (row := rowI)); (iterate 5 (simp only [push_cast, seval]; rfl)); (focus ((repeat' (first | rfl | (with_reducible first | apply ft9 | apply ft8 | apply ft7 | apply ft6 | apply ft10 | apply f_optN | apply f_optS | apply f_some | apply f_tup | apply f_agg | apply f_ptr | apply f_fn | apply dv_slice | apply sv_d | apply f_cons | apply fold_nil | apply fold_cons | apply fold_app | apply f_rowI | apply f_rowY | apply f_rowS | apply f_rowB | apply f_rowL) | (with_reducible apply f_byte; decide))); done)); (focus ((repeat' (first | rfl | (with_reducible first | apply ft9 | apply ft8 | apply ft7 | apply ft6 | apply ft10 | apply f_optN | apply f_optS | apply f_some | apply f_tup | apply f_agg | apply f_ptr | apply f_fn | apply dv_slice | apply sv_d | apply f_cons | apply fold_nil | apply fold_cons | apply fold_app | apply f_rowI | apply f_rowY | apply f_rowS | apply f_rowB | apply f_rowL) | (with_reducible apply f_byte; decide))); done)); rfl; decide; (intro _; rfl); intro hm) | ((with_reducible apply O_appV hm); (iterate 4 (simp only [push_cast, seval]; rfl)); (focus ((repeat' (first | rfl | (with_reducible first | apply ft9 | apply ft8 | apply ft7 | apply ft6 | apply ft10 | apply f_optN | apply f_optS | apply f_some | apply f_tup | apply f_agg | apply f_ptr | apply f_fn | apply dv_slice | apply sv_d | apply f_cons | apply fold_nil | apply fold_cons | apply fold_app | apply f_rowI | apply f_rowY | apply f_rowS | apply f_rowB | apply f_rowL) | (with_reducible apply f_byte; decide))); done)); decide; (intro _; rfl); intro hm) | ((with_reducible apply O_appN hm); (focus (simp only [push_cast, seval]; done)); (iterate 2 (simp only [push_cast, seval]; rfl)); (focus ((repeat' (first | rfl | (with_reducible first | apply ft9 | apply ft8 | apply ft7 | apply ft6 | apply ft10 | apply f_optN | apply f_optS | apply f_some | apply f_tup | apply f_agg | apply f_ptr | apply f_fn | apply dv_slice | apply sv_d | apply f_cons | apply fold_nil | apply fold_cons | apply fold_app | apply f_rowI | apply f_rowY | apply f_rowS | apply f_rowB | apply f_rowL) | (with_reducible apply f_byte; decide))); done)); decide; (intro _; rfl); intro hm) | ((with_reducible apply O_stVA hm); (iterate 4 (simp only [push_cast, seval]; rfl)); (focus ((repeat' (first | rfl | (with_reducible first | apply ft9 | apply ft8 | apply ft7 | apply ft6 | apply ft10 | apply f_optN | apply f_optS | apply f_some | apply f_tup | apply f_agg | apply f_ptr | apply f_fn | apply dv_slice | apply sv_d | apply f_cons | apply fold_nil | apply fold_cons | apply fold_app | apply f_rowI | apply f_rowY | apply f_rowS | apply f_rowB | apply f_rowL) | (with_reducible apply f_byte; decide))); done)); decide; (intro _; rfl); intro e hm) | ((with_reducible apply O_stV hm); (iterate 3 (simp only [push_cast, seval]; rfl)); rfl; (intro _; rfl); rfl; (focus (intro a; simp only [push_cast, seval]; rfl)); (focus (intro a; (repeat' (first | rfl | with_reducible apply et8 | with_reducible apply et7 | with_reducible apply eT_Tapi_Flaw | with_reducible apply et6 | with_reducible apply et9)); done)); intro e hm) | ((with_reducible apply S_condB hm); (simp only [push_cast, seval]; rfl); intro hm; rotate_left; intro hm) | ((with_reducible apply K_endS hm); (focus (simp only [resOf, resL, RV.get, push_cast, seval]; rfl)); (focus ((repeat' (first | rfl | (with_reducible first | apply ft9 | apply ft8 | apply ft7 | apply ft6 | apply ft10 | apply f_optN | apply f_optS | apply f_some | apply f_tup | apply f_agg | apply f_ptr | apply f_fn | apply dv_slice | apply sv_d | apply f_cons | apply fold_nil | apply fold_cons | apply fold_app | apply f_rowI | apply f_rowY | apply f_rowS | apply f_rowB | apply f_rowL) | (with_reducible apply f_byte; decide))); done))) | ((with_reducible apply K_bool hm); (simp only [push_cast, seval]; rfl)) | ((with_reducible apply K_leave hm); intro r hm) | ((with_reducible apply K_leaveR hm); intro r hm) | ((apply S_loopY (b := 1) (X := c145) (x := c144) rfl (fun (c : SV × SV × SV × SV) (s : Int) => st [(2, c.1), (5, c.2.1), (55, c.2.2.1), (56, c.2.2.2), (57, .d (.int .i64 s))] []) (c := (_, _, _, _)) (s0 := _) hm); (focus (first | (dsimp only; done) | (dsimp only; rfl) | rfl)); (with_reducible refine Then.mk ?_ ?_)) | ((apply S_loopY (b := 0) (X := c148) (x := c147) rfl (fun (c : SV × SV) (s : (List Int) × Int) => st [(3, .vec 3), (7, c.1), (8, c.2), (9, .d (.int .i64 s.2))] [(3, .vec 3 1 (vrow rowI s.1))]) (c := (_, _)) (s0 := (_, _)) hm); (focus (first | (dsimp only; done) | (dsimp only; rfl) | rfl)); (with_reducible refine Then.mk ?_ ?_); apply Imp.trans; (focus (apply imp_vecnil (slot := 3) (id := 3) (e := 3) (sz := 1); (focus (simp only [push_cast, seval]; done))))) | ((apply S_loopY (b := 0) (X := c151) (x := c150) rfl (fun (c : SV × SV) (s : (List Int) × Int) => st [(3, .vec 3), (7, c.1), (8, c.2), (9, .d (.int .i64 s.2))] [(3, .vec 3 1 (vrow rowI s.1))]) (c := (_, _)) (s0 := (_, _)) hm); (focus (first | (dsimp only; done) | (dsimp only; rfl) | rfl)); (with_reducible refine Then.mk ?_ ?_); apply Imp.trans; (focus (apply imp_vecnil (slot := 3) (id := 3) (e := 3) (sz := 1); (focus (simp only [push_cast, seval]; done))))) | ((apply S_loopY (b := 0) (X := c154) (x := c153) rfl (fun (c : SV × SV × Ch) (s : Int) => st [(0, c.1), (1, c.2.1), (5, .ref 5 0), (6, .d (.int .i64 s))] [(5, c.2.2)]) (c := (_, _, _)) (s0 := _) hm); (focus (first | (dsimp only; done) | (dsimp only; rfl) | rfl)); (with_reducible refine Then.mk ?_ ?_)) | ((apply S_loopY (b := 2) (X := c156) (x := c155) rfl (fun (c : Ch) (s : Int) => st [(5, .ref 5 0), (7, .d (.int .i64 s))] [(5, c)]) (c := _) (s0 := _) hm); (focus (first | (dsimp only; done) | (dsimp only; rfl) | rfl)); (with_reducible refine Then.mk ?_ ?_)) | ((apply K_next (s' := (_, _)) hm); (focus (first | (dsimp only; done) | (dsimp only; rfl) | rfl))) | ((apply K_brk (s' := (_, _)) hm); (focus (first | (dsimp only; done) | (dsimp only; rfl) | rfl))) | ((apply K_next (s' := _) hm); (focus (first | (dsimp only; done) | (dsimp only; rfl) | rfl))) | ((apply K_brk (s' := _) hm); (focus (first | (dsimp only; done) | (dsimp only; rfl) | rfl))) | (((with_reducible apply K_brkN hm); (focus decide); intro r hm)) | (((with_reducible apply K_brkR hm); intro r hm)) | (((with_reducible apply LoopB.of); (focus (first | (dsimp only; done) | (dsimp only; rfl) | rfl)); (focus ((intro _; repeat' (first | with_reducible exact impC_end | with_reducible exact impC_endF | with_reducible refine impC_seq ?_ | with_reducible refine impC_block ?_ | ((with_reducible refine impC_rnd ?_); intro _) | ((with_reducible refine impC_brk ?_); intro _))))); (intro s o hm; first | unfold c144 | unfold c147 | unfold c150 | unfold c153 | unfold c155); rotate_left; intro s hm)) | (((apply imp_stT; (repeat' (first | with_reducible exact keepT_nil | with_reducible exact keepC_nil | with_reducible apply keepT_cons | with_reducible apply keepC_cons | ((with_reducible apply svle_eq); (focus (first | (simp only [push_cast, seval]; rfl) | rfl)); (focus ((repeat' (first | rfl | (with_reducible first | apply ft9 | apply ft8 | apply ft7 | apply ft6 | apply ft10 | apply f_optN | apply f_optS | apply f_some | apply f_tup | apply f_agg | apply f_ptr | apply f_fn | apply dv_slice | apply sv_d | apply f_cons | apply fold_nil | apply fold_cons | apply fold_app | apply f_rowI | apply f_rowY | apply f_rowS | apply f_rowB | apply f_rowL) | (with_reducible apply f_byte; decide))); done))) | ((with_reducible apply svle_td); (focus (first | (simp only [push_cast, seval]; rfl) | rfl)); (focus (first | (simp only [push_cast, seval]; rfl) | rfl)); (focus ((repeat' (first | rfl | (with_reducible first | apply ft9 | apply ft8 | apply ft7 | apply ft6 | apply ft10 | apply f_optN | apply f_optS | apply f_some | apply f_tup | apply f_agg | apply f_ptr | apply f_fn | apply dv_slice | apply sv_d | apply f_cons | apply fold_nil | apply fold_cons | apply fold_app | apply f_rowI | apply f_rowY | apply f_rowS | apply f_rowB | apply f_rowL) | (with_reducible apply f_byte; decide))); done))) | ((with_reducible apply chle_eq); (focus (first | (simp only [push_cast, seval]; rfl) | rfl)); (first | with_reducible exact chle_rfl rfl | with_reducible exact chle_map0 | with_reducible apply chle_vec | with_reducible apply chle_box)) | (with_reducible first | apply ct9 | apply ct8 | apply ct7 | apply ct6 | apply ct10 | apply r_shS | apply r_shI | apply r_rflO | apply r_oneO | apply r_appO | apply r_nilO | apply c_ownN | apply c_ownL | apply vc_rfl | apply vc_nil | apply vc_cons | apply r_rfl | apply r_rows | apply r_nil | apply r_app | apply r_cons | apply c_rowI | apply c_rowY | apply c_rowS | apply c_rowB | apply c_rowL))); done)))))
noncomputable def m67 (x0 : T8) (x1 : List T8) : Option (Int) := (w17.1 x0 x1).1
theorem s63 (x0 : T8) (x1 : List T8) : ∀ r, m67 x0 x1 = some r → PureSpec Tryz.prog 91 [.agg (r12 x0), .slice (List.map r12 x1)] (.int .i64 r) := (w17.1 x0 x1).2
noncomputable def m68 (x0 : T9) : Option (Int) := (w17.2.1 x0).1
theorem s64 (x0 : T9) : ∀ r, m68 x0 = some r → PureSpec Tryz.prog 92 [.agg (r13 x0)] (.int .i64 r) := (w17.2.1 x0).2
noncomputable def m69 (x0 : T10) : Option (Int) := (w17.2.2.1 x0).1
theorem s65 (x0 : T10) : ∀ r, m69 x0 = some r → PureSpec Tryz.prog 55 [.agg (r14 x0)] (.int .i64 r) := (w17.2.2.1 x0).2
noncomputable def m70 (x0 : List T9) (x1 : Int) : Option (Int) := (w17.2.2.2 x0 x1).1
theorem s66 (x0 : List T9) (x1 : Int) : ∀ r, m70 x0 x1 = some r → PureSpec Tryz.prog 63 [.slice (List.map r13 x0), .int .i64 x1] (.int .i64 r) := (w17.2.2.2 x0 x1).2
def c158 : SC :=
  (.seq (.reg [.r 26 (.bin .lss (.t 25) (.t 24))])
  (.seq (.cond (.t 26)
    .skip
    (.exit 1))
  (.seq (.block 2 (.seq (.reg [.r 27 (.mv (.t 25)),
       .r 28 (.idx 5 (.t 23) (.t 25)),
       .o 29 (.ldA 5 (.t 28)),
       .w 6 (.boxM (.c (.agg [.d (.str []), .d (.int .i64 0), .d (.bool false), .nils, .nils]))),
       .r 5 (.mv (.t 27)),
       .w 0 (.st 5 (.t 6) (.t 29))])
    (.seq (.regD [.r 30 (.ldA 5 (.t 6)),
       .r 31 (.fld 2 (.t 2)),
       .r 32 (.ld1 (.t 31)),
       .r 33 (.mv (.t 5)),
       .r 34 (.slc 5 (.t 32) none (some (.t 33))),
       .c 35 (.f 91) [.t 30, .t 34],
       .r 7 (.mv (.t 35))])
    (.seq (.reg [.r 36 (.mv (.t 7)),
       .r 37 (.bin .neq (.t 36) (.c (.d (.int .i64 0))))])
    (.cond (.t 37)
      (.seq (.reg [.r 38 (.mv (.t 7)),
         .r 4 (.mv (.t 38))])
      .ret)
      .skip)))))
  (.reg [.r 39 (.bin .add (.t 25) (.c (.d (.int .i64 1)))),
     .r 25 (.mv (.t 39))]))))
def c159 : SC := .block 1 (.loop c158)
def c160 : SC :=
  (.seq (.reg [.r 2 (.boxI (.t 0)),
     .r 4 (.mv (.c (.d (.int .i64 0))))])
  (.seq (.block 0 (.seq (.reg [.r 9 (.fld 0 (.t 2)),
       .o 10 (.ld1 (.t 9)),
       .c 11 (.f 37) [.t 10],
       .r 12 (.not (.t 11)),
       .r 8 (.mv (.t 12))])
    (.cond (.t 8)
      (.seq (.reg [.r 4 (.mv (.c (.d (.int .i64 3))))])
      .ret)
      (.seq (.reg [.r 14 (.fld 1 (.t 2)),
         .o 15 (.ld1 (.t 14)),
         .c 16 (.f 53) [.t 15],
         .r 17 (.not (.t 16)),
         .r 13 (.mv (.t 17))])
      (.cond (.t 13)
        (.seq (.reg [.r 4 (.mv (.c (.d (.int .i64 4))))])
        .ret)
        (.seq (.reg [.r 19 (.mv (.t 1)),
           .r 20 (.mkfn 90 [.t 2]),
           .c 21 (.f 89) [.t 19, .t 20],
           .r 18 (.mv (.t 21))])
        (.cond (.t 18)
          (.seq (.reg [.r 4 (.mv (.c (.d (.int .i64 7))))])
          .ret)
          .skip)))))))
  (.seq (.seq (.reg [.r 22 (.fld 2 (.t 2)),
     .o 23 (.ld1 (.t 22)),
     .r 24 (.len (.t 23)),
     .r 25 (.mv (.c (.d (.int .i64 0))))])
  c159)
  (.seq (.seq (.regD [.r 40 (.ldA 3 (.t 2)),
     .c 41 (.f 92) [.t 40],
     .r 42 (.fld 1 (.t 2)),
     .r 43 (.ld1 (.t 42)),
     .r 44 (.bin .neq (.t 41) (.t 43))])
  (.cond (.t 44)
    (.seq (.reg [.r 4 (.mv (.c (.d (.int .i64 12))))])
    .ret)
    .skip))
  (.seq (.reg [.r 4 (.mv (.c (.d (.int .i64 0))))])
  .ret)))))
theorem k73 : fits Tryz.prog 54 Tryz.f54 c160 [.t 4] 2 = true := by kernel_rfl
def c161 : SC :=
  (.seq (.seq (.reg [.r 18 (.mv (.t 4)),
     .r 19 (.fld 2 (.t 1)),
     .o 20 (.ld1 (.t 19)),
     .r 21 (.len (.t 20)),
     .r 22 (.bin .lss (.t 18) (.t 21))])
  (.cond (.t 22)
    .skip
    (.exit 0)))
  (.seq (.block 1 (.seq (.seq (.reg [.r 25 (.fld 2 (.t 1)),
       .o 26 (.ld1 (.t 25)),
       .r 27 (.mv (.t 4)),
       .c 28 (.f 63) [.t 26, .t 27],
       .r 5 (.mv (.t 28))])
    (.seq (.reg [.r 29 (.mv (.t 5)),
       .r 30 (.bin .neq (.t 29) (.c (.d (.int .i64 0))))])
    (.cond (.t 30)
      (.seq (.reg [.r 31 (.mv (.t 5)),
         .r 2 (.mv (.t 31))])
      .ret)
      .skip)))
    (.reg [.r 32 (.mv (.t 3)),
       .r 33 (.fld 2 (.t 1)),
       .o 34 (.ld1 (.t 33)),
       .r 35 (.mv (.t 4)),
       .r 36 (.idx 3 (.t 34) (.t 35)),
       .r 37 (.fld 2 (.t 36)),
       .o 38 (.ld1 (.t 37)),
       .r 39 (.len (.t 38)),
       .r 40 (.bin .add (.t 32) (.t 39)),
       .r 3 (.mv (.t 40))])))
  (.reg [.r 23 (.mv (.t 4)),
     .r 24 (.bin .add (.t 23) (.c (.d (.int .i64 1)))),
     .r 4 (.mv (.t 24))])))
def c162 : SC := .block 0 (.loop c161)
def c163 : SC :=
  (.seq (.reg [.r 1 (.boxI (.t 0)),
     .r 2 (.mv (.c (.d (.int .i64 0))))])
  (.seq (.seq (.reg [.r 6 (.fld 0 (.t 1)),
     .o 7 (.ld1 (.t 6)),
     .c 8 (.f 43) [.t 7],
     .r 9 (.not (.t 8))])
  (.cond (.t 9)
    (.seq (.reg [.r 2 (.mv (.c (.d (.int .i64 3))))])
    .ret)
    .skip))
  (.seq (.seq (.reg [.r 10 (.fld 1 (.t 1)),
     .o 11 (.ld1 (.t 10)),
     .c 12 (.f 62) [.t 11],
     .r 13 (.not (.t 12))])
  (.cond (.t 13)
    (.seq (.reg [.r 2 (.mv (.c (.d (.int .i64 4))))])
    .ret)
    .skip))
  (.seq (.seq (.reg [.r 14 (.fld 2 (.t 1)),
     .o 15 (.ld1 (.t 14)),
     .r 16 (.len (.t 15)),
     .r 17 (.bin .gtr (.t 16) (.c (.d (.int .i64 50))))])
  (.cond (.t 17)
    (.seq (.reg [.r 2 (.mv (.c (.d (.int .i64 2))))])
    .ret)
    .skip))
  (.seq (.reg [.r 3 (.mv (.c (.d (.int .i64 0))))])
  (.seq (.seq (.reg [.r 4 (.mv (.c (.d (.int .i64 0))))])
  c162)
  (.seq (.seq (.reg [.r 41 (.mv (.t 3)),
     .r 42 (.bin .gtr (.t 41) (.c (.d (.int .i64 200))))])
  (.cond (.t 42)
    (.seq (.reg [.r 2 (.mv (.c (.d (.int .i64 2))))])
    .ret)
    .skip))
  (.seq (.seq (.regD [.r 43 (.fld 1 (.t 1)),
     .r 44 (.ld1 (.t 43)),
     .r 45 (.ldA 3 (.t 1)),
     .c 46 (.f 64) [.t 45],
     .r 47 (.bin .neq (.t 44) (.t 46))])
  (.cond (.t 47)
    (.seq (.reg [.r 2 (.mv (.c (.d (.int .i64 12))))])
    .ret)
    .skip))
  (.seq (.reg [.r 2 (.mv (.c (.d (.int .i64 0))))])
  .ret)))))))))
theorem k74 : fits Tryz.prog 26 Tryz.f26 c163 [.t 2] 1 = true := by kernel_rfl
set_option maxRecDepth 100000 in
set_option maxHeartbeats 40000000 in
noncomputable def w18 : (∀ (x0 : T9) (x1 : List T9), {m : Option (Int) // ∀ r, m = some r → PureSpec Tryz.prog 54 [.agg (r13 x0), .slice (List.map r13 x1)] (.int .i64 r)}) × (∀ (x0 : T10), {m : Option (Int) // ∀ r, m = some r → PureSpec Tryz.prog 26 [.agg (r14 x0)] (.int .i64 r)}) := by
  refine ⟨?g0, ?g1⟩
  case' g0 => (intro x0 x1; apply Subtype.mk; intro r hm; apply pure_walk Tryz.func54 k73; unfold c160)
  case' g1 => (intro x0; apply Subtype.mk; intro r hm; apply pure_walk Tryz.func26 k74; unfold c163)
  all_goals (repeat' (first | with_reducible refine W_seq ?_ | with_reducible refine W_reg ?_ | with_reducible refine W_regD ?_ | with_reducible refine W_block ?_ | with_reducible refine W_skip ?_ | with_reducible refine W_ret ?_ | with_reducible refine W_exit ?_ | with_reducible refine O_nil ?_ | with_reducible refine K_seq ?_ | with_reducible refine K_seqE ?_ | with_reducible refine K_seqR ?_ | with_reducible refine K_block ?_ | with_reducible refine K_blockR ?_ | with_reducible refine K_blockE ?_ | ((with_reducible apply K_blockN); decide) | with_reducible refine O_o2r ?_ | ((with_reducible apply O_idxr hm); (iterate 2 (simp only [push_cast, seval]; rfl)); (intro _; rfl); intro e hm) | ((with_reducible apply O_idxVr hm); (iterate 3 (simp only [push_cast, seval]; rfl)); intro e hm) | ((with_reducible apply O_slcr hm); (iterate 3 (simp only [push_cast, seval]; rfl)); (intro _; rfl); intro e hm) | ((with_reducible apply O_r); (simp only [push_cast, seval]; rfl); (first | exact trivial | omega)) | ((with_reducible apply O_ldV1r hm); (iterate 2 (simp only [push_cast, seval]; rfl)); (intro _; rfl); intro e hm) | ((with_reducible apply O_ldAVr hm); (iterate 2 (simp only [push_cast, seval]; rfl)); (intro _; rfl); intro e hm) | ((with_reducible apply O_strr hm); (iterate 2 (simp only [push_cast, seval]; rfl)); intro hm) | ((with_reducible apply W_condT); (focus (simp only [push_cast, seval]; done))) | ((with_reducible apply W_condF); (focus (simp only [push_cast, seval]; done))) | ((with_reducible apply O_cF hm); (simp only [push_cast, seval]; rfl); (first | apply s29 _ | apply s50 _ | apply s51 _ _ _ _ (fun a0 r h => s42 a0 _ r h) | apply s51 _ _ _ _ (fun a0 r h => s29 a0 r h) | apply s51 _ _ _ _ (fun a0 r h => s50 a0 r h) | apply s51 _ _ _ _ (fun a0 a1 r h => s63 a0 a1 r h) | apply s51 _ _ _ _ (fun a0 r h => s64 a0 r h) | apply s63 _ _ | apply s64 _ | apply s42 _ _ | apply s26 _ | apply s56 _ | apply s66 _ _ | apply s59 _); (any_goals ((repeat' (first | rfl | (with_reducible first | apply ft9 | apply ft8 | apply ft7 | apply ft6 | apply ft10 | apply f_optN | apply f_optS | apply f_some | apply f_tup | apply f_agg | apply f_ptr | apply f_fn | apply dv_slice | apply sv_d | apply f_cons | apply fold_nil | apply fold_cons | apply fold_app | apply f_rowI | apply f_rowY | apply f_rowS | apply f_rowB | apply f_rowL) | (with_reducible apply f_byte; decide))); done)); intro x hm) | ((with_reducible apply O_cvS hm); (iterate 2 (simp only [push_cast, seval]; rfl)); (focus (first | exact s29 _ | exact s50 _ | exact s51 _ _ _ _ (fun a0 r h => s42 a0 _ r h) | exact s51 _ _ _ _ (fun a0 r h => s29 a0 r h) | exact s51 _ _ _ _ (fun a0 r h => s50 a0 r h) | exact s51 _ _ _ _ (fun a0 a1 r h => s63 a0 a1 r h) | exact s51 _ _ _ _ (fun a0 r h => s64 a0 r h) | exact s63 _ _ | exact s64 _ | exact s42 _ _ | exact s26 _ | exact s56 _ | exact s66 _ _ | exact s59 _)); intro x hm) | ((with_reducible apply O_w); (simp only [push_cast, seval]; rfl); (first | exact trivial | omega)) | ((with_reducible apply O_stVA hm); (iterate 4 (simp only [push_cast, seval]; rfl)); (focus ((repeat' (first | rfl | (with_reducible first | apply ft9 | apply ft8 | apply ft7 | apply ft6 | apply ft10 | apply f_optN | apply f_optS | apply f_some | apply f_tup | apply f_agg | apply f_ptr | apply f_fn | apply dv_slice | apply sv_d | apply f_cons | apply fold_nil | apply fold_cons | apply fold_app | apply f_rowI | apply f_rowY | apply f_rowS | apply f_rowB | apply f_rowL) | (with_reducible apply f_byte; decide))); done)); decide; (intro _; rfl); intro e hm) | ((with_reducible apply S_condB hm); (simp only [push_cast, seval]; rfl); intro hm; rotate_left; intro hm) | ((with_reducible apply K_endS hm); (focus (simp only [resOf, resL, RV.get, push_cast, seval]; rfl)); (focus ((repeat' (first | rfl | (with_reducible first | apply ft9 | apply ft8 | apply ft7 | apply ft6 | apply ft10 | apply f_optN | apply f_optS | apply f_some | apply f_tup | apply f_agg | apply f_ptr | apply f_fn | apply dv_slice | apply sv_d | apply f_cons | apply fold_nil | apply fold_cons | apply fold_app | apply f_rowI | apply f_rowY | apply f_rowS | apply f_rowB | apply f_rowL) | (with_reducible apply f_byte; decide))); done))) | ((with_reducible apply K_leave hm); intro r hm) | ((with_reducible apply K_leaveR hm); intro r hm) | ((apply S_loopY (b := 1) (X := c159) (x := c158) rfl (fun (c : SV × SV × SV) (s : Int) => st [(2, c.1), (23, c.2.1), (24, c.2.2), (25, .d (.int .i64 s))] []) (c := (_, _, _)) (s0 := _) hm); (focus (first | (dsimp only; done) | (dsimp only; rfl) | rfl)); (with_reducible refine Then.mk ?_ ?_)) | ((apply S_loopY (b := 0) (X := c162) (x := c161) rfl (fun (c : SV) (s : Int × Int) => st [(1, c), (3, .d (.int .i64 s.1)), (4, .d (.int .i64 s.2))] []) (c := _) (s0 := (_, _)) hm); (focus (first | (dsimp only; done) | (dsimp only; rfl) | rfl)); (with_reducible refine Then.mk ?_ ?_)) | ((apply K_next (s' := (_, _)) hm); (focus (first | (dsimp only; done) | (dsimp only; rfl) | rfl))) | ((apply K_brk (s' := (_, _)) hm); (focus (first | (dsimp only; done) | (dsimp only; rfl) | rfl))) | ((apply K_next (s' := _) hm); (focus (first | (dsimp only; done) | (dsimp only; rfl) | rfl))) | ((apply K_brk (s' := _) hm); (focus (first | (dsimp only; done) | (dsimp only; rfl) | rfl))) | (((with_reducible apply K_brkN hm); (focus decide); intro r hm)) | (((with_reducible apply K_brkR hm); intro r hm)) | (((with_reducible apply LoopB.of); (focus (first | (dsimp only; done) | (dsimp only; rfl) | rfl)); (focus ((intro _; repeat' (first | with_reducible exact impC_end | with_reducible exact impC_endF | with_reducible refine impC_seq ?_ | with_reducible refine impC_block ?_ | ((with_reducible refine impC_rnd ?_); intro _) | ((with_reducible refine impC_brk ?_); intro _))))); (intro s o hm; first | unfold c158 | unfold c161); rotate_left; intro s hm)) | (((apply imp_stT; (repeat' (first | with_reducible exact keepT_nil | with_reducible exact keepC_nil | with_reducible apply keepT_cons | with_reducible apply keepC_cons | ((with_reducible apply svle_eq); (focus (first | (simp only [push_cast, seval]; rfl) | rfl)); (focus ((repeat' (first | rfl | (with_reducible first | apply ft9 | apply ft8 | apply ft7 | apply ft6 | apply ft10 | apply f_optN | apply f_optS | apply f_some | apply f_tup | apply f_agg | apply f_ptr | apply f_fn | apply dv_slice | apply sv_d | apply f_cons | apply fold_nil | apply fold_cons | apply fold_app | apply f_rowI | apply f_rowY | apply f_rowS | apply f_rowB | apply f_rowL) | (with_reducible apply f_byte; decide))); done))) | ((with_reducible apply svle_td); (focus (first | (simp only [push_cast, seval]; rfl) | rfl)); (focus (first | (simp only [push_cast, seval]; rfl) | rfl)); (focus ((repeat' (first | rfl | (with_reducible first | apply ft9 | apply ft8 | apply ft7 | apply ft6 | apply ft10 | apply f_optN | apply f_optS | apply f_some | apply f_tup | apply f_agg | apply f_ptr | apply f_fn | apply dv_slice | apply sv_d | apply f_cons | apply fold_nil | apply fold_cons | apply fold_app | apply f_rowI | apply f_rowY | apply f_rowS | apply f_rowB | apply f_rowL) | (with_reducible apply f_byte; decide))); done))) | ((with_reducible apply chle_eq); (focus (first | (simp only [push_cast, seval]; rfl) | rfl)); (first | with_reducible exact chle_rfl rfl | with_reducible exact chle_map0 | with_reducible apply chle_vec | with_reducible apply chle_box)) | (with_reducible first | apply ct9 | apply ct8 | apply ct7 | apply ct6 | apply ct10 | apply r_shS | apply r_shI | apply r_rflO | apply r_oneO | apply r_appO | apply r_nilO | apply c_ownN | apply c_ownL | apply vc_rfl | apply vc_nil | apply vc_cons | apply r_rfl | apply r_rows | apply r_nil | apply r_app | apply r_cons | apply c_rowI | apply c_rowY | apply c_rowS | apply c_rowB | apply c_rowL))); done)))))
noncomputable def m71 (x0 : T9) (x1 : List T9) : Option (Int) := (w18.1 x0 x1).1
theorem s67 (x0 : T9) (x1 : List T9) : ∀ r, m71 x0 x1 = some r → PureSpec Tryz.prog 54 [.agg (r13 x0), .slice (List.map r13 x1)] (.int .i64 r) := (w18.1 x0 x1).2
noncomputable def m72 (x0 : T10) : Option (Int) := (w18.2 x0).1
theorem s68 (x0 : T10) : ∀ r, m72 x0 = some r → PureSpec Tryz.prog 26 [.agg (r14 x0)] (.int .i64 r) := (w18.2 x0).2
def c164 : SC :=
  (.seq (.reg [.r 26 (.bin .lss (.t 25) (.t 24))])
  (.seq (.cond (.t 26)
    .skip
    (.exit 1))
  (.seq (.block 2 (.seq (.reg [.r 27 (.mv (.t 25)),
       .r 28 (.idx 3 (.t 23) (.t 25)),
       .o 29 (.ldA 3 (.t 28)),
       .w 5 (.boxM (.c (.agg [.d (.str []), .d (.int .i64 0), .nils]))),
       .r 4 (.mv (.t 27)),
       .w 0 (.st 3 (.t 5) (.t 29))])
    (.seq (.seq (.regD [.r 30 (.ldA 3 (.t 5)),
       .r 31 (.fld 2 (.t 1)),
       .r 32 (.ld1 (.t 31)),
       .r 33 (.mv (.t 4)),
       .r 34 (.slc 3 (.t 32) none (some (.t 33))),
       .c 35 (.f 54) [.t 30, .t 34],
       .r 6 (.mv (.t 35))])
    (.seq (.reg [.r 36 (.mv (.t 6)),
       .r 37 (.bin .neq (.t 36) (.c (.d (.int .i64 0))))])
    (.cond (.t 37)
      (.seq (.reg [.r 38 (.mv (.t 6)),
         .r 2 (.mv (.t 38))])
      .ret)
      .skip)))
    (.reg [.r 39 (.mv (.t 3)),
       .r 40 (.fld 2 (.t 5)),
       .o 41 (.ld1 (.t 40)),
       .r 42 (.len (.t 41)),
       .r 43 (.bin .add (.t 39) (.t 42)),
       .r 3 (.mv (.t 43))]))))
  (.reg [.r 44 (.bin .add (.t 25) (.c (.d (.int .i64 1)))),
     .r 25 (.mv (.t 44))]))))
def c165 : SC := .block 1 (.loop c164)
def c166 : SC :=
  (.seq (.reg [.r 1 (.boxI (.t 0)),
     .r 2 (.mv (.c (.d (.int .i64 0))))])
  (.seq (.block 0 (.seq (.reg [.r 8 (.fld 0 (.t 1)),
       .o 9 (.ld1 (.t 8)),
       .c 10 (.f 37) [.t 9],
       .r 11 (.not (.t 10)),
       .r 7 (.mv (.t 11))])
    (.cond (.t 7)
      (.seq (.reg [.r 2 (.mv (.c (.d (.int .i64 3))))])
      .ret)
      (.seq (.reg [.r 13 (.fld 1 (.t 1)),
         .o 14 (.ld1 (.t 13)),
         .c 15 (.f 53) [.t 14],
         .r 16 (.not (.t 15)),
         .r 12 (.mv (.t 16))])
      (.cond (.t 12)
        (.seq (.reg [.r 2 (.mv (.c (.d (.int .i64 4))))])
        .ret)
        (.seq (.reg [.r 18 (.fld 2 (.t 1)),
           .o 19 (.ld1 (.t 18)),
           .r 20 (.len (.t 19)),
           .r 21 (.bin .gtr (.t 20) (.c (.d (.int .i64 50)))),
           .r 17 (.mv (.t 21))])
        (.cond (.t 17)
          (.seq (.reg [.r 2 (.mv (.c (.d (.int .i64 2))))])
          .ret)
          .skip)))))))
  (.seq (.reg [.r 3 (.mv (.c (.d (.int .i64 0))))])
  (.seq (.seq (.reg [.r 22 (.fld 2 (.t 1)),
     .o 23 (.ld1 (.t 22)),
     .r 24 (.len (.t 23)),
     .r 25 (.mv (.c (.d (.int .i64 0))))])
  c165)
  (.seq (.seq (.reg [.r 45 (.mv (.t 3)),
     .r 46 (.bin .gtr (.t 45) (.c (.d (.int .i64 200))))])
  (.cond (.t 46)
    (.seq (.reg [.r 2 (.mv (.c (.d (.int .i64 2))))])
    .ret)
    .skip))
  (.seq (.seq (.regD [.r 47 (.ldA 3 (.t 1)),
     .c 48 (.f 55) [.t 47],
     .r 49 (.fld 1 (.t 1)),
     .r 50 (.ld1 (.t 49)),
     .r 51 (.bin .neq (.t 48) (.t 50))])
  (.cond (.t 51)
    (.seq (.reg [.r 2 (.mv (.c (.d (.int .i64 12))))])
    .ret)
    .skip))
  (.seq (.reg [.r 2 (.mv (.c (.d (.int .i64 0))))])
  .ret)))))))
theorem k75 : fits Tryz.prog 23 Tryz.f23 c166 [.t 2] 1 = true := by kernel_rfl
set_option maxRecDepth 100000 in
set_option maxHeartbeats 40000000 in
noncomputable def w19 : (∀ (x0 : T10), {m : Option (Int) // ∀ r, m = some r → PureSpec Tryz.prog 23 [.agg (r14 x0)] (.int .i64 r)}) := by
  (intro x0; apply Subtype.mk; intro r hm; apply pure_walk Tryz.func23 k75; unfold c166)
  repeat' (first | with_reducible refine W_seq ?_ | with_reducible refine W_reg ?_ | with_reducible refine W_regD ?_ | with_reducible refine W_block ?_ | with_reducible refine W_skip ?_ | with_reducible refine W_ret ?_ | with_reducible refine W_exit ?_ | with_reducible refine O_nil ?_ | with_reducible refine K_seq ?_ | with_reducible refine K_seqE ?_ | with_reducible refine K_seqR ?_ | with_reducible refine K_block ?_ | with_reducible refine K_blockR ?_ | with_reducible refine K_blockE ?_ | ((with_reducible apply K_blockN); decide) | with_reducible refine O_o2r ?_ | ((with_reducible apply O_idxr hm); (iterate 2 (simp only [push_cast, seval]; rfl)); (intro _; rfl); intro e hm) | ((with_reducible apply O_idxVr hm); (iterate 3 (simp only [push_cast, seval]; rfl)); intro e hm) | ((with_reducible apply O_slcr hm); (iterate 3 (simp only [push_cast, seval]; rfl)); (intro _; rfl); intro e hm) | ((with_reducible apply O_r); (simp only [push_cast, seval]; rfl); (first | exact trivial | omega)) | ((with_reducible apply O_ldV1r hm); (iterate 2 (simp only [push_cast, seval]; rfl)); (intro _; rfl); intro e hm) | ((with_reducible apply O_ldAVr hm); (iterate 2 (simp only [push_cast, seval]; rfl)); (intro _; rfl); intro e hm) | ((with_reducible apply O_strr hm); (iterate 2 (simp only [push_cast, seval]; rfl)); intro hm) | ((with_reducible apply W_condT); (focus (simp only [push_cast, seval]; done))) | ((with_reducible apply W_condF); (focus (simp only [push_cast, seval]; done))) | ((with_reducible apply O_cF hm); (simp only [push_cast, seval]; rfl); (first | apply s29 _ | apply s50 _ | apply s67 _ _ | apply s65 _); (any_goals ((repeat' (first | rfl | (with_reducible first | apply ft9 | apply ft8 | apply ft7 | apply ft6 | apply ft10 | apply f_optN | apply f_optS | apply f_some | apply f_tup | apply f_agg | apply f_ptr | apply f_fn | apply dv_slice | apply sv_d | apply f_cons | apply fold_nil | apply fold_cons | apply fold_app | apply f_rowI | apply f_rowY | apply f_rowS | apply f_rowB | apply f_rowL) | (with_reducible apply f_byte; decide))); done)); intro x hm) | ((with_reducible apply O_w); (simp only [push_cast, seval]; rfl); (first | exact trivial | omega)) | ((with_reducible apply O_stVA hm); (iterate 4 (simp only [push_cast, seval]; rfl)); (focus ((repeat' (first | rfl | (with_reducible first | apply ft9 | apply ft8 | apply ft7 | apply ft6 | apply ft10 | apply f_optN | apply f_optS | apply f_some | apply f_tup | apply f_agg | apply f_ptr | apply f_fn | apply dv_slice | apply sv_d | apply f_cons | apply fold_nil | apply fold_cons | apply fold_app | apply f_rowI | apply f_rowY | apply f_rowS | apply f_rowB | apply f_rowL) | (with_reducible apply f_byte; decide))); done)); decide; (intro _; rfl); intro e hm) | ((with_reducible apply S_condB hm); (simp only [push_cast, seval]; rfl); intro hm; rotate_left; intro hm) | ((with_reducible apply K_endS hm); (focus (simp only [resOf, resL, RV.get, push_cast, seval]; rfl)); (focus ((repeat' (first | rfl | (with_reducible first | apply ft9 | apply ft8 | apply ft7 | apply ft6 | apply ft10 | apply f_optN | apply f_optS | apply f_some | apply f_tup | apply f_agg | apply f_ptr | apply f_fn | apply dv_slice | apply sv_d | apply f_cons | apply fold_nil | apply fold_cons | apply fold_app | apply f_rowI | apply f_rowY | apply f_rowS | apply f_rowB | apply f_rowL) | (with_reducible apply f_byte; decide))); done))) | ((with_reducible apply K_leave hm); intro r hm) | ((with_reducible apply K_leaveR hm); intro r hm) | ((apply S_loopY (b := 1) (X := c165) (x := c164) rfl (fun (c : SV × SV × SV) (s : Int × Int) => st [(1, c.1), (3, .d (.int .i64 s.1)), (23, c.2.1), (24, c.2.2), (25, .d (.int .i64 s.2))] []) (c := (_, _, _)) (s0 := (_, _)) hm); (focus (first | (dsimp only; done) | (dsimp only; rfl) | rfl)); (with_reducible refine Then.mk ?_ ?_)) | ((apply K_next (s' := (_, _)) hm); (focus (first | (dsimp only; done) | (dsimp only; rfl) | rfl))) | ((apply K_brk (s' := (_, _)) hm); (focus (first | (dsimp only; done) | (dsimp only; rfl) | rfl))) | (((with_reducible apply K_brkN hm); (focus decide); intro r hm)) | (((with_reducible apply K_brkR hm); intro r hm)) | (((with_reducible apply LoopB.of); (focus (first | (dsimp only; done) | (dsimp only; rfl) | rfl)); (focus ((intro _; repeat' (first | with_reducible exact impC_end | with_reducible exact impC_endF | with_reducible refine impC_seq ?_ | with_reducible refine impC_block ?_ | ((with_reducible refine impC_rnd ?_); intro _) | ((with_reducible refine impC_brk ?_); intro _))))); (intro s o hm; first | unfold c164); rotate_left; intro s hm)) | (((apply imp_stT; (repeat' (first | with_reducible exact keepT_nil | with_reducible exact keepC_nil | with_reducible apply keepT_cons | with_reducible apply keepC_cons | ((with_reducible apply svle_eq); (focus (first | (simp only [push_cast, seval]; rfl) | rfl)); (focus ((repeat' (first | rfl | (with_reducible first | apply ft9 | apply ft8 | apply ft7 | apply ft6 | apply ft10 | apply f_optN | apply f_optS | apply f_some | apply f_tup | apply f_agg | apply f_ptr | apply f_fn | apply dv_slice | apply sv_d | apply f_cons | apply fold_nil | apply fold_cons | apply fold_app | apply f_rowI | apply f_rowY | apply f_rowS | apply f_rowB | apply f_rowL) | (with_reducible apply f_byte; decide))); done))) | ((with_reducible apply svle_td); (focus (first | (simp only [push_cast, seval]; rfl) | rfl)); (focus (first | (simp only [push_cast, seval]; rfl) | rfl)); (focus ((repeat' (first | rfl | (with_reducible first | apply ft9 | apply ft8 | apply ft7 | apply ft6 | apply ft10 | apply f_optN | apply f_optS | apply f_some | apply f_tup | apply f_agg | apply f_ptr | apply f_fn | apply dv_slice | apply sv_d | apply f_cons | apply fold_nil | apply fold_cons | apply fold_app | apply f_rowI | apply f_rowY | apply f_rowS | apply f_rowB | apply f_rowL) | (with_reducible apply f_byte; decide))); done))) | ((with_reducible apply chle_eq); (focus (first | (simp only [push_cast, seval]; rfl) | rfl)); (first | with_reducible exact chle_rfl rfl | with_reducible exact chle_map0 | with_reducible apply chle_vec | with_reducible apply chle_box)) | (with_reducible first | apply ct9 | apply ct8 | apply ct7 | apply ct6 | apply ct10 | apply r_shS | apply r_shI | apply r_rflO | apply r_oneO | apply r_appO | apply r_nilO | apply c_ownN | apply c_ownL | apply vc_rfl | apply vc_nil | apply vc_cons | apply r_rfl | apply r_rows | apply r_nil | apply r_app | apply r_cons | apply c_rowI | apply c_rowY | apply c_rowS | apply c_rowB | apply c_rowL))); done))))
noncomputable def m73 (x0 : T10) : Option (Int) := (w19 x0).1
theorem s69 (x0 : T10) : ∀ r, m73 x0 = some r → PureSpec Tryz.prog 23 [.agg (r14 x0)] (.int .i64 r) := (w19 x0).2
end Go.Proofs.YthailknfgcegoaaGreatDoor
