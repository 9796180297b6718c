/-
  Texts of mine, one behind the other (SAG5, SARow, SAPL, SAQ1, SAQ2, SAQ3, SAPM, SAQ4, SAY1, SAY2, SAY7, SAY8).
-/
import Derived.Test.YthailknfgcegoaaGreatDoorBK2
import Derived.Test.YthailknfgcegoaaGreatDoorSAEngZ
import Derived.Test.YthailknfgcegoaaGreatDoorProg
import Derived.KernelRfl
import Derived.Test.YthailknfgcegoaaGreatDoorCards
import Derived.Test.YthailknfgcegoaaGreatDoorTie
import Derived.Test.YthailknfgcegoaaGreatDoorSAEngR
import Derived.Test.YthailknfgcegoaaGreatDoorSAEngX
/-
  Bodies of functions and what they compute, printed by programs of mine (wip/tool/gen.py, sc.py) out of the translation; the kernel holds each against the translation.
-/
namespace Go.Proofs.YthailknfgcegoaaGreatDoor
open Go.RowKit
set_option linter.unusedSimpArgs false
set_option linter.unusedVariables false
theorem ot1 {d0 d1 d2 : SV} {v0 : List UInt8} {v1 : List UInt8} {v2 : List T3} {m2 : List Mask} (h0 : svle d0 (.d (.str v0))) (h1 : svle d1 (.d (.str v1))) (h2 : cle d2 (.own (.sl 56 m2) (.slice (List.map r7 v2)))) : cellsle [d0, d1, d2] (ownR [.sh, .sh, .sl 56 m2] (r8 ⟨v0, v1, v2⟩)) := by have h := (cellsle.append (cellsle.consS h0 cellsle.nil) (cellsle.append (cellsle.consS h1 cellsle.nil) (cellsle.cons h2 cellsle.nil))); simp only [push_cast, seval, dR] at h ⊢; exact h
def bt1 (p0 : List UInt8) (p1 : List UInt8) (p2 : Nat) : List SV := [.d (.str p0)] ++ ([.d (.str p1)] ++ ([.vec p2]))
attribute [push_cast] bt1
theorem bct1 {d0 d1 : SV} {a2 : Nat} {v0 : List UInt8} {v1 : List UInt8} (h0 : svle d0 (.d (.str v0))) (h1 : svle d1 (.d (.str v1))) : cellsle [d0, d1, .vec a2] (bt1 v0 v1 a2) := by have h := (cellsle.append (cellsle.consS h0 cellsle.nil) (cellsle.append (cellsle.consS h1 cellsle.nil) (cellsle.rfl (l := [.vec a2])))); simp only [bt1, push_cast, seval, dR] at h ⊢; exact h
theorem ot2 {d0 d1 d2 d3 d4 d5 d6 : SV} {v0 : List UInt8} {v1 : List UInt8} {v2 : List UInt8} {v3 : Int} {v4 : Int} {v5 : Bool} {v6 : List T4} {m6 : List Mask} (h0 : svle d0 (.d (.str v0))) (h1 : svle d1 (.d (.str v1))) (h2 : svle d2 (.d (.str v2))) (h3 : svle d3 (.d (.int .i64 v3))) (h4 : svle d4 (.d (.int .i64 v4))) (h5 : svle d5 (.d (.bool v5))) (h6 : cle d6 (.own (.sl 54 m6) (.slice (List.map r8 v6)))) : cellsle [d0, d1, d2, d3, d4, d5, d6] (ownR [.sh, .sh, .sh, .sh, .sh, .sh, .sl 54 m6] (r9 ⟨v0, v1, v2, v3, v4, v5, v6⟩)) := by have h := (cellsle.append (cellsle.consS h0 cellsle.nil) (cellsle.append (cellsle.consS h1 cellsle.nil) (cellsle.append (cellsle.consS h2 cellsle.nil) (cellsle.append (cellsle.consS h3 cellsle.nil) (cellsle.append (cellsle.consS h4 cellsle.nil) (cellsle.append (cellsle.consS h5 cellsle.nil) (cellsle.cons h6 cellsle.nil))))))); simp only [push_cast, seval, dR] at h ⊢; exact h
def bt2 (p0 : List UInt8) (p1 : List UInt8) (p2 : List UInt8) (p3 : Int) (p4 : Int) (p5 : Bool) (p6 : Nat) : List SV := [.d (.str p0)] ++ ([.d (.str p1)] ++ ([.d (.str p2)] ++ ([.d (.int .i64 p3)] ++ ([.d (.int .i64 p4)] ++ ([.d (.bool p5)] ++ ([.vec p6]))))))
attribute [push_cast] bt2
theorem bct2 {d0 d1 d2 d3 d4 d5 : SV} {a6 : Nat} {v0 : List UInt8} {v1 : List UInt8} {v2 : List UInt8} {v3 : Int} {v4 : Int} {v5 : Bool} (h0 : svle d0 (.d (.str v0))) (h1 : svle d1 (.d (.str v1))) (h2 : svle d2 (.d (.str v2))) (h3 : svle d3 (.d (.int .i64 v3))) (h4 : svle d4 (.d (.int .i64 v4))) (h5 : svle d5 (.d (.bool v5))) : cellsle [d0, d1, d2, d3, d4, d5, .vec a6] (bt2 v0 v1 v2 v3 v4 v5 a6) := by have h := (cellsle.append (cellsle.consS h0 cellsle.nil) (cellsle.append (cellsle.consS h1 cellsle.nil) (cellsle.append (cellsle.consS h2 cellsle.nil) (cellsle.append (cellsle.consS h3 cellsle.nil) (cellsle.append (cellsle.consS h4 cellsle.nil) (cellsle.append (cellsle.consS h5 cellsle.nil) (cellsle.rfl (l := [.vec a6])))))))); simp only [bt2, push_cast, seval, dR] at h ⊢; exact h
structure T11 where
  fKind : Int
  fTime : Int
  fDue : Int
  fRef : List UInt8
  fVerdict : Int
  deriving DecidableEq
def r15 (x : T11) : List DV := [.int .i64 x.fKind, .int .i64 x.fTime, .int .i64 x.fDue, .str x.fRef, .int .i64 x.fVerdict]
attribute [push_cast] r15
theorem ft11 {d0 d1 d2 d3 d4 : DV} {v0 : Int} {v1 : Int} {v2 : Int} {v3 : List UInt8} {v4 : Int} (h0 : d0 = .int .i64 v0) (h1 : d1 = .int .i64 v1) (h2 : d2 = .int .i64 v2) (h3 : d3 = .str v3) (h4 : d4 = .int .i64 v4) : [d0, d1, d2, d3, d4] = r15 ⟨v0, v1, v2, v3, v4⟩ := by unfold r15; simp only [h0, h1, h2, h3, h4, List.cons_append, List.nil_append, List.append_assoc, List.append_nil]
theorem ct11 {d0 d1 d2 d3 d4 : SV} {v0 : Int} {v1 : Int} {v2 : Int} {v3 : List UInt8} {v4 : Int} (h0 : svle d0 (.d (.int .i64 v0))) (h1 : svle d1 (.d (.int .i64 v1))) (h2 : svle d2 (.d (.int .i64 v2))) (h3 : svle d3 (.d (.str v3))) (h4 : svle d4 (.d (.int .i64 v4))) : cellsle [d0, d1, d2, d3, d4] (dR (r15 ⟨v0, v1, v2, v3, v4⟩)) := by have h := (cellsle.append (cellsle.consS h0 cellsle.nil) (cellsle.append (cellsle.consS h1 cellsle.nil) (cellsle.append (cellsle.consS h2 cellsle.nil) (cellsle.append (cellsle.consS h3 cellsle.nil) (cellsle.consS h4 cellsle.nil))))); simpa only [r15, dR, List.map_append, List.map_cons, List.map_nil, List.cons_append, List.nil_append, List.append_assoc, List.append_nil] using h
theorem et10 {d0 d1 d2 d3 d4 : SV} {v0 : Int} {v1 : Int} {v2 : Int} {v3 : List UInt8} {v4 : Int} (h0 : d0 = .d (.int .i64 v0)) (h1 : d1 = .d (.int .i64 v1)) (h2 : d2 = .d (.int .i64 v2)) (h3 : d3 = .d (.str v3)) (h4 : d4 = .d (.int .i64 v4)) : [d0, d1, d2, d3, d4] = dR (r15 ⟨v0, v1, v2, v3, v4⟩) := by simp only [r15, dR, List.map_append, List.map_cons, List.map_nil, List.cons_append, List.nil_append, List.append_assoc, List.append_nil, h0, h1, h2, h3, h4]
structure T12 where
  fRef : List UInt8
  fTime : Int
  fDue : Int
  fAnswer : Int
  fVerdict : Int
  deriving DecidableEq
def r16 (x : T12) : List DV := [.str x.fRef, .int .i64 x.fTime, .int .i64 x.fDue, .int .i64 x.fAnswer, .int .i64 x.fVerdict]
attribute [push_cast] r16
theorem ft12 {d0 d1 d2 d3 d4 : DV} {v0 : List UInt8} {v1 : Int} {v2 : Int} {v3 : Int} {v4 : Int} (h0 : d0 = .str v0) (h1 : d1 = .int .i64 v1) (h2 : d2 = .int .i64 v2) (h3 : d3 = .int .i64 v3) (h4 : d4 = .int .i64 v4) : [d0, d1, d2, d3, d4] = r16 ⟨v0, v1, v2, v3, v4⟩ := by unfold r16; simp only [h0, h1, h2, h3, h4, List.cons_append, List.nil_append, List.append_assoc, List.append_nil]
theorem ct12 {d0 d1 d2 d3 d4 : SV} {v0 : List UInt8} {v1 : Int} {v2 : Int} {v3 : Int} {v4 : Int} (h0 : svle d0 (.d (.str v0))) (h1 : svle d1 (.d (.int .i64 v1))) (h2 : svle d2 (.d (.int .i64 v2))) (h3 : svle d3 (.d (.int .i64 v3))) (h4 : svle d4 (.d (.int .i64 v4))) : cellsle [d0, d1, d2, d3, d4] (dR (r16 ⟨v0, v1, v2, v3, v4⟩)) := by have h := (cellsle.append (cellsle.consS h0 cellsle.nil) (cellsle.append (cellsle.consS h1 cellsle.nil) (cellsle.append (cellsle.consS h2 cellsle.nil) (cellsle.append (cellsle.consS h3 cellsle.nil) (cellsle.consS h4 cellsle.nil))))); simpa only [r16, dR, List.map_append, List.map_cons, List.map_nil, List.cons_append, List.nil_append, List.append_assoc, List.append_nil] using h
theorem et11 {d0 d1 d2 d3 d4 : SV} {v0 : List UInt8} {v1 : Int} {v2 : Int} {v3 : Int} {v4 : Int} (h0 : d0 = .d (.str v0)) (h1 : d1 = .d (.int .i64 v1)) (h2 : d2 = .d (.int .i64 v2)) (h3 : d3 = .d (.int .i64 v3)) (h4 : d4 = .d (.int .i64 v4)) : [d0, d1, d2, d3, d4] = dR (r16 ⟨v0, v1, v2, v3, v4⟩) := by simp only [r16, dR, List.map_append, List.map_cons, List.map_nil, List.cons_append, List.nil_append, List.append_assoc, List.append_nil, h0, h1, h2, h3, h4]
structure T13 where
  fWaits : Int
  fLate : Int
  fTaken : Int
  fFlawed : Int
  fRefused : Int
  fOverdue : Int
  deriving DecidableEq
def r17 (x : T13) : List DV := [.int .i64 x.fWaits, .int .i64 x.fLate, .int .i64 x.fTaken, .int .i64 x.fFlawed, .int .i64 x.fRefused, .int .i64 x.fOverdue]
attribute [push_cast] r17
theorem ft13 {d0 d1 d2 d3 d4 d5 : DV} {v0 : Int} {v1 : Int} {v2 : Int} {v3 : Int} {v4 : Int} {v5 : Int} (h0 : d0 = .int .i64 v0) (h1 : d1 = .int .i64 v1) (h2 : d2 = .int .i64 v2) (h3 : d3 = .int .i64 v3) (h4 : d4 = .int .i64 v4) (h5 : d5 = .int .i64 v5) : [d0, d1, d2, d3, d4, d5] = r17 ⟨v0, v1, v2, v3, v4, v5⟩ := by unfold r17; simp only [h0, h1, h2, h3, h4, h5, List.cons_append, List.nil_append, List.append_assoc, List.append_nil]
theorem ct13 {d0 d1 d2 d3 d4 d5 : SV} {v0 : Int} {v1 : Int} {v2 : Int} {v3 : Int} {v4 : Int} {v5 : Int} (h0 : svle d0 (.d (.int .i64 v0))) (h1 : svle d1 (.d (.int .i64 v1))) (h2 : svle d2 (.d (.int .i64 v2))) (h3 : svle d3 (.d (.int .i64 v3))) (h4 : svle d4 (.d (.int .i64 v4))) (h5 : svle d5 (.d (.int .i64 v5))) : cellsle [d0, d1, d2, d3, d4, d5] (dR (r17 ⟨v0, v1, v2, v3, v4, v5⟩)) := by have h := (cellsle.append (cellsle.consS h0 cellsle.nil) (cellsle.append (cellsle.consS h1 cellsle.nil) (cellsle.append (cellsle.consS h2 cellsle.nil) (cellsle.append (cellsle.consS h3 cellsle.nil) (cellsle.append (cellsle.consS h4 cellsle.nil) (cellsle.consS h5 cellsle.nil)))))); simpa only [r17, dR, List.map_append, List.map_cons, List.map_nil, List.cons_append, List.nil_append, List.append_assoc, List.append_nil] using h
def c167 : SC :=
  (.seq (.reg [.r 18 (.bin .lss (.t 17) (.t 16))])
  (.seq (.cond (.t 18)
    .skip
    (.exit 0))
  (.seq (.block 1 (.seq (.reg [.r 19 (.mv (.t 17)),
       .r 20 (.idx 3 (.t 15) (.t 17)),
       .o 21 (.ldA 3 (.t 20)),
       .w 8 (.boxM (.c (.agg [.d (.str []), .d (.str []), .nils]))),
       .r 7 (.mv (.t 19)),
       .w 0 (.st 3 (.t 8) (.t 21))])
    (.seq (.reg [.r 22 (.mv (.t 1)),
       .r 23 (.mv (.t 7)),
       .r 24 (.idx 3 (.t 22) (.t 23)),
       .o 25 (.ldA 3 (.t 24)),
       .w 9 (.boxM (.c (.agg [.d (.str []), .d (.int .i64 0), .nils]))),
       .w 0 (.st 3 (.t 9) (.t 25))])
    (.seq (.reg [.r 26 (.mv (.t 2)),
       .o 27 (.ldA 3 (.t 8)),
       .o 28 (.ldA 3 (.t 9)),
       .c 29 (.t 26) [.t 27, .t 28],
       .r 30 (.not (.t 29))])
    (.cond (.t 30)
      (.seq (.reg [.r 6 (.mv (.c (.d (.bool false))))])
      .ret)
      .skip)))))
  (.reg [.r 31 (.bin .add (.t 17) (.c (.d (.int .i64 1)))),
     .r 17 (.mv (.t 31))]))))
def c168 : SC := .block 0 (.loop c167)
def c169 : SC :=
  (.seq (.reg [.r 6 (.mv (.c (.d (.bool false))))])
  (.seq (.seq (.reg [.r 10 (.mv (.t 0)),
     .r 11 (.len (.t 10)),
     .r 12 (.mv (.t 1)),
     .r 13 (.len (.t 12)),
     .r 14 (.bin .neq (.t 11) (.t 13))])
  (.cond (.t 14)
    (.seq (.reg [.r 6 (.mv (.c (.d (.bool false))))])
    .ret)
    .skip))
  (.seq (.seq (.reg [.r 15 (.mv (.t 0)),
     .r 16 (.len (.t 15)),
     .r 17 (.mv (.c (.d (.int .i64 0))))])
  c168)
  (.seq (.reg [.r 6 (.mv (.c (.d (.bool true))))])
  .ret))))
theorem k76 : fits Tryz.prog 56 Tryz.f56 c169 [.t 6] 3 = true := by kernel_rfl
def c170 : SC :=
  (.seq (.reg [.r 18 (.bin .lss (.t 17) (.t 16))])
  (.seq (.cond (.t 18)
    .skip
    (.exit 0))
  (.seq (.block 1 (.seq (.reg [.r 19 (.mv (.t 17)),
       .r 20 (.idx 4 (.t 15) (.t 17)),
       .o 21 (.ldA 4 (.t 20)),
       .w 8 (.boxM (.c (.agg [.d (.str []), .d (.str []), .d (.str []), .nils]))),
       .r 7 (.mv (.t 19)),
       .w 0 (.st 4 (.t 8) (.t 21))])
    (.seq (.reg [.r 22 (.mv (.t 1)),
       .r 23 (.mv (.t 7)),
       .r 24 (.idx 5 (.t 22) (.t 23)),
       .o 25 (.ldA 5 (.t 24)),
       .w 9 (.boxM (.c (.agg [.d (.str []), .d (.int .i64 0), .d (.bool false), .nils, .nils]))),
       .w 0 (.st 5 (.t 9) (.t 25))])
    (.seq (.reg [.r 26 (.mv (.t 2)),
       .o 27 (.ldA 4 (.t 8)),
       .o 28 (.ldA 5 (.t 9)),
       .c 29 (.t 26) [.t 27, .t 28],
       .r 30 (.not (.t 29))])
    (.cond (.t 30)
      (.seq (.reg [.r 6 (.mv (.c (.d (.bool false))))])
      .ret)
      .skip)))))
  (.reg [.r 31 (.bin .add (.t 17) (.c (.d (.int .i64 1)))),
     .r 17 (.mv (.t 31))]))))
def c171 : SC := .block 0 (.loop c170)
def c172 : SC :=
  (.seq (.reg [.r 6 (.mv (.c (.d (.bool false))))])
  (.seq (.seq (.reg [.r 10 (.mv (.t 0)),
     .r 11 (.len (.t 10)),
     .r 12 (.mv (.t 1)),
     .r 13 (.len (.t 12)),
     .r 14 (.bin .neq (.t 11) (.t 13))])
  (.cond (.t 14)
    (.seq (.reg [.r 6 (.mv (.c (.d (.bool false))))])
    .ret)
    .skip))
  (.seq (.seq (.reg [.r 15 (.mv (.t 0)),
     .r 16 (.len (.t 15)),
     .r 17 (.mv (.c (.d (.int .i64 0))))])
  c171)
  (.seq (.reg [.r 6 (.mv (.c (.d (.bool true))))])
  .ret))))
theorem k77 : fits Tryz.prog 58 Tryz.f58 c172 [.t 6] 3 = true := by kernel_rfl
def c173 : SC :=
  (.seq (.reg [.r 2 (.boxI (.t 0)),
     .r 3 (.boxI (.t 1)),
     .r 4 (.mv (.c (.d (.bool false))))])
  (.seq (.reg [.r 5 (.fld 0 (.t 2)),
     .o 6 (.ld1 (.t 5)),
     .r 7 (.fld 0 (.t 3)),
     .o 8 (.ld1 (.t 7)),
     .r 9 (.bin .eql (.t 6) (.t 8)),
     .r 4 (.mv (.t 9))])
  .ret))
theorem k78 : fits Tryz.prog 59 Tryz.f59 c173 [.t 4] 2 = true := by kernel_rfl
def c174 : SC :=
  (.seq (.seq (.reg [.r 54 (.mv (.t 8)),
     .r 55 (.fld 2 (.t 6)),
     .o 56 (.ld1 (.t 55)),
     .r 57 (.len (.t 56)),
     .r 58 (.bin .lss (.t 54) (.t 57))])
  (.cond (.t 58)
    .skip
    (.exit 2)))
  (.seq (.block 3 (.seq (.regD [.r 61 (.fld 2 (.t 6)),
       .r 62 (.ld1 (.t 61)),
       .r 63 (.mv (.t 8)),
       .r 64 (.idx 4 (.t 62) (.t 63)),
       .r 65 (.fld 0 (.t 64)),
       .r 66 (.ld1 (.t 65)),
       .r 67 (.fld 2 (.t 7)),
       .r 68 (.ld1 (.t 67)),
       .r 69 (.mv (.t 8)),
       .r 70 (.idx 5 (.t 68) (.t 69)),
       .r 71 (.fld 0 (.t 70)),
       .r 72 (.ld1 (.t 71)),
       .r 73 (.bin .neq (.t 66) (.t 72))])
    (.cond (.t 73)
      (.seq (.reg [.r 4 (.mv (.c (.d (.bool false))))])
      .ret)
      .skip)))
  (.reg [.r 59 (.mv (.t 8)),
     .r 60 (.bin .add (.t 59) (.c (.d (.int .i64 1)))),
     .r 8 (.mv (.t 60))])))
def c175 : SC := .block 2 (.loop c174)
def c176 : SC :=
  (.seq (.seq (.reg [.r 23 (.mv (.t 5)),
     .r 24 (.fld 6 (.t 2)),
     .o 25 (.ld1 (.t 24)),
     .r 26 (.len (.t 25)),
     .r 27 (.bin .lss (.t 23) (.t 26))])
  (.cond (.t 27)
    .skip
    (.exit 0)))
  (.seq (.block 1 (.seq (.regV [0, 1, 2, 3, 4, 5, 6, 7, 8, 9, 11, 10, 12, 13] [.r 30 (.fld 6 (.t 2)), .r 31 (.ld1 (.t 30)), .r 32 (.mv (.t 5)), .r 33 (.idx 3 (.t 31) (.t 32)), .r 34 (.ldA 3 (.t 33)), .r 35 (.fld 2 (.t 3)), .r 36 (.ld1 (.t 35)), .r 37 (.mv (.t 5)), .r 38 (.idx 3 (.t 36) (.t 37)), .r 39 (.ldA 3 (.t 38))] 6 (.c (.agg [.d (.str []), .d (.str []), .nils])) [(0, 30, .fld 6 (.t 2)), (1, 31, .ld1 (.t 30)), (2, 32, .mv (.t 5)), (3, 33, .idx 3 (.t 31) (.t 32)), (4, 34, .ldA 3 (.t 33)), (5, 35, .fld 2 (.t 3)), (6, 36, .ld1 (.t 35)), (7, 37, .mv (.t 5)), (8, 38, .idx 3 (.t 36) (.t 37)), (9, 39, .ldA 3 (.t 38))] 7 (.c (.agg [.d (.str []), .d (.int .i64 0), .nils])) [(0, 30, .fld 6 (.t 2)), (1, 31, .ld1 (.t 30)), (2, 32, .mv (.t 5)), (3, 33, .idx 3 (.t 31) (.t 32)), (4, 34, .ldA 3 (.t 33)), (5, 35, .fld 2 (.t 3)), (6, 36, .ld1 (.t 35)), (7, 37, .mv (.t 5)), (8, 38, .idx 3 (.t 36) (.t 37)), (9, 39, .ldA 3 (.t 38))] [.x 0 (.st 3 (.t 6) (.t 34)) [(5, 35, .fld 2 (.t 3)), (6, 36, .ld1 (.t 35)), (7, 37, .mv (.t 5)), (8, 38, .idx 3 (.t 36) (.t 37)), (9, 39, .ldA 3 (.t 38))], .x 0 (.st 3 (.t 7) (.t 39)) []])
    (.seq (.seq (.reg (.r 40 (.fld 0 (.t 6)) :: .o 41 (.ld1 (.t 40)) :: .r 42 (.fld 0 (.t 7)) :: .o 43 (.ld1 (.t 42)) :: .r 44 (.bin .neq (.t 41) (.t 43)) :: .r 45 (.mv (.t 44)) :: gapp [46, 47, 48, 49, 50, 51, 52] 45 false (.r 46 (.fld 2 (.t 6)) :: .r 47 (.ld1 (.t 46)) :: .r 48 (.len (.t 47)) :: .r 49 (.fld 2 (.t 7)) :: .r 50 (.ld1 (.t 49)) :: .r 51 (.len (.t 50)) :: .r 52 (.bin .neq (.t 48) (.t 51)) :: []) (.r 53 (.pick (.t 45) (.c (.d (.bool true))) (.t 52)) :: [])))
    (.cond (.t 53)
      (.seq (.reg [.r 4 (.mv (.c (.d (.bool false))))])
      .ret)
      .skip))
    (.seq (.reg [.r 8 (.mv (.c (.d (.int .i64 0))))])
    c175))))
  (.reg [.r 28 (.mv (.t 5)),
     .r 29 (.bin .add (.t 28) (.c (.d (.int .i64 1)))),
     .r 5 (.mv (.t 29))])))
def c177 : SC := .block 0 (.loop c176)
def c178 : SC :=
  (.seq (.reg [.r 2 (.boxI (.t 0)),
     .r 3 (.boxI (.t 1)),
     .r 4 (.mv (.c (.d (.bool false))))])
  (.seq (.seq (.reg (.r 9 (.fld 0 (.t 2)) :: .o 10 (.ld1 (.t 9)) :: .r 11 (.fld 0 (.t 3)) :: .o 12 (.ld1 (.t 11)) :: .r 13 (.bin .neq (.t 10) (.t 12)) :: .r 14 (.mv (.t 13)) :: gapp [15, 16, 17, 18, 19, 20, 21] 14 false (.r 15 (.fld 6 (.t 2)) :: .r 16 (.ld1 (.t 15)) :: .r 17 (.len (.t 16)) :: .r 18 (.fld 2 (.t 3)) :: .r 19 (.ld1 (.t 18)) :: .r 20 (.len (.t 19)) :: .r 21 (.bin .neq (.t 17) (.t 20)) :: []) (.r 22 (.pick (.t 14) (.c (.d (.bool true))) (.t 21)) :: [])))
  (.cond (.t 22)
    (.seq (.reg [.r 4 (.mv (.c (.d (.bool false))))])
    .ret)
    .skip))
  (.seq (.seq (.reg [.r 5 (.mv (.c (.d (.int .i64 0))))])
  c177)
  (.seq (.reg [.r 4 (.mv (.c (.d (.bool true))))])
  .ret))))
theorem k79 : fits Tryz.prog 27 Tryz.f27 c178 [.t 4] 2 = true := by kernel_rfl
def c179 : SC :=
  (.seq (.seq (.reg [.r 11 (.mv (.t 5)),
     .r 12 (.mv (.t 0)),
     .r 13 (.len (.t 12)),
     .r 14 (.bin .lss (.t 11) (.t 13))])
  (.cond (.t 14)
    .skip
    (.exit 0)))
  (.seq (.block 1 (.seq (.regD [.r 17 (.mv (.t 0)),
       .r 18 (.mv (.t 5)),
       .r 19 (.idx 1 (.t 17) (.t 18)),
       .r 20 (.ld1 (.t 19)),
       .r 21 (.mv (.t 1)),
       .r 22 (.mv (.t 5)),
       .r 23 (.idx 1 (.t 21) (.t 22)),
       .r 24 (.ld1 (.t 23)),
       .r 25 (.bin .neq (.t 20) (.t 24))])
    (.cond (.t 25)
      (.seq (.reg [.r 4 (.mv (.c (.d (.bool false))))])
      .ret)
      .skip)))
  (.reg [.r 15 (.mv (.t 5)),
     .r 16 (.bin .add (.t 15) (.c (.d (.int .i64 1)))),
     .r 5 (.mv (.t 16))])))
def c180 : SC := .block 0 (.loop c179)
def c181 : SC :=
  (.seq (.reg [.r 4 (.mv (.c (.d (.bool false))))])
  (.seq (.seq (.reg [.r 6 (.mv (.t 0)),
     .r 7 (.len (.t 6)),
     .r 8 (.mv (.t 1)),
     .r 9 (.len (.t 8)),
     .r 10 (.bin .neq (.t 7) (.t 9))])
  (.cond (.t 10)
    (.seq (.reg [.r 4 (.mv (.c (.d (.bool false))))])
    .ret)
    .skip))
  (.seq (.seq (.reg [.r 5 (.mv (.c (.d (.int .i64 0))))])
  c180)
  (.seq (.reg [.r 4 (.mv (.c (.d (.bool true))))])
  .ret))))
theorem k80 : fits Tryz.prog 86 Tryz.f86 c181 [.t 4] 2 = true := by kernel_rfl
def c182 : SC :=
  (.seq (.reg [.r 2 (.boxI (.t 0)),
     .r 4 (.mv (.c (.d (.int .i64 0))))])
  (.seq (.block 0 (.seq (.reg [.r 6 (.fld 3 (.t 2)),
       .o 7 (.ld1 (.t 6)),
       .r 8 (.bin .geq (.t 7) (.c (.d (.int .i64 0)))),
       .r 5 (.mv (.t 8))])
    (.cond (.t 5)
      (.seq (.reg [.r 4 (.mv (.c (.d (.int .i64 3))))])
      .ret)
      (.seq (.reg [.r 10 (.mv (.t 1)),
         .r 11 (.fld 2 (.t 2)),
         .o 12 (.ld1 (.t 11)),
         .r 13 (.bin .gtr (.t 10) (.t 12)),
         .r 9 (.mv (.t 13))])
      (.cond (.t 9)
        (.seq (.reg [.r 4 (.mv (.c (.d (.int .i64 2))))])
        .ret)
        .skip)))))
  (.seq (.reg [.r 4 (.mv (.c (.d (.int .i64 1))))])
  .ret)))
theorem k81 : fits Tryz.prog 68 Tryz.f68 c182 [.t 4] 2 = true := by kernel_rfl
set_option maxRecDepth 100000 in
set_option maxHeartbeats 40000000 in
noncomputable def w20 : (∀ (x0 : List T4) (x1 : List T9) (f2 : FuncId) (c2 : List DV) (p2 : T4 → T9 → Option (Bool)) (h2 : ∀ a0 a1 r, p2 a0 a1 = some r → PureSpec Tryz.prog f2 ([.agg (r8 a0), .agg (r13 a1)] ++ c2) (.bool r)), {m : Option (Bool) // ∀ r, m = some r → PureSpec Tryz.prog 56 [.slice (List.map r8 x0), .slice (List.map r13 x1), .fn f2 c2] (.bool r)}) × (∀ (x0 : List T3) (x1 : List T8) (f2 : FuncId) (c2 : List DV) (p2 : T3 → T8 → Option (Bool)) (h2 : ∀ a0 a1 r, p2 a0 a1 = some r → PureSpec Tryz.prog f2 ([.agg (r7 a0), .agg (r12 a1)] ++ c2) (.bool r)), {m : Option (Bool) // ∀ r, m = some r → PureSpec Tryz.prog 58 [.slice (List.map r7 x0), .slice (List.map r12 x1), .fn f2 c2] (.bool r)}) × (∀ (x0 : T3) (x1 : T8), {m : Option (Bool) // ∀ r, m = some r → PureSpec Tryz.prog 59 [.agg (r7 x0), .agg (r12 x1)] (.bool r)}) × (∀ (x0 : T5) (x1 : T10), {m : Option (Bool) // ∀ r, m = some r → PureSpec Tryz.prog 27 [.agg (r9 x0), .agg (r14 x1)] (.bool r)}) × (∀ (x0 : List (List UInt8)) (x1 : List (List UInt8)), {m : Option (Bool) // ∀ r, m = some r → PureSpec Tryz.prog 86 [.slice (List.map rowS x0), .slice (List.map rowS x1)] (.bool r)}) × (∀ (x0 : T12) (x1 : Int), {m : Option (Int) // ∀ r, m = some r → PureSpec Tryz.prog 68 [.agg (r16 x0), .int .i64 x1] (.int .i64 r)}) := by
  refine ⟨?g0, ?g1, ?g2, ?g3, ?g4, ?g5⟩
  case' g0 => (intro x0 x1 f2 c2 p2 h2; apply Subtype.mk; intro r hm; apply pure_walk Tryz.func56 k76; unfold c169)
  case' g1 => (intro x0 x1 f2 c2 p2 h2; apply Subtype.mk; intro r hm; apply pure_walk Tryz.func58 k77; unfold c172)
  case' g2 => (intro x0 x1; apply Subtype.mk; intro r hm; apply pure_walk Tryz.func59 k78; unfold c173)
  case' g3 => (intro x0 x1; apply Subtype.mk; intro r hm; apply pure_walk Tryz.func27 k79; unfold c178)
  case' g4 => (intro x0 x1; apply Subtype.mk; intro r hm; apply pure_walk Tryz.func86 k80; unfold c181)
  case' g5 => (intro x0 x1; apply Subtype.mk; intro r hm; apply pure_walk Tryz.func68 k81; unfold c182)
  all_goals (repeat' (first | with_reducible refine W_seq ?_ | with_reducible refine W_reg ?_ | with_reducible refine W_regD ?_ | with_reducible refine W_regV ?_ | with_reducible refine W_block ?_ | with_reducible refine W_skip ?_ | with_reducible refine W_ret ?_ | with_reducible refine W_exit ?_ | with_reducible refine O_nil ?_ | with_reducible refine K_seq ?_ | with_reducible refine K_seqE ?_ | with_reducible refine K_seqR ?_ | with_reducible refine K_block ?_ | with_reducible refine K_blockR ?_ | with_reducible refine K_blockE ?_ | ((with_reducible apply K_blockN); decide) | with_reducible refine O_o2r ?_ | ((with_reducible apply O_idxrE hm); (iterate 2 (simp only [push_cast, seval]; rfl)); (intro _; rfl); intro e he hm) | ((with_reducible apply O_idxVr hm); (iterate 3 (simp only [push_cast, seval]; rfl)); intro e hm) | ((with_reducible apply O_r); (simp only [push_cast, seval]; rfl); (first | exact trivial | omega)) | ((with_reducible apply O_ldV1r hm); (iterate 2 (simp only [push_cast, seval]; rfl)); (intro _; rfl); intro e hm) | ((with_reducible apply O_ldAVr hm); (iterate 2 (simp only [push_cast, seval]; rfl)); (intro _; rfl); intro e hm) | ((with_reducible apply O_strr hm); (iterate 2 (simp only [push_cast, seval]; rfl)); intro hm) | ((with_reducible apply O_or hm); (simp only [push_cast, seval]; rfl); rfl; intro v hm; rotate_left; intro v g hm) | ((with_reducible apply W_condT); (focus (simp only [push_cast, seval]; done))) | ((with_reducible apply W_condF); (focus (simp only [push_cast, seval]; done))) | ((with_reducible apply O_cF hm); (simp only [push_cast, seval]; rfl); (first | apply h2 _ _); (any_goals ((repeat' (first | rfl | (with_reducible first | apply ft1 | apply ft7 | apply ft4 | apply ft9 | apply ft5 | apply ft3 | apply ft8 | apply ft10 | apply ft2 | apply ft6 | apply ft12 | apply f_optN | apply f_optS | apply f_some | apply f_tup | apply f_agg | apply f_ptr | apply f_fn | apply dv_slice | apply sv_d | apply f_cons | apply fold_nil | apply fold_cons | apply fold_app | apply f_rowI | apply f_rowY | apply f_rowS | apply f_rowB | apply f_rowL) | (with_reducible apply f_byte; decide))); done)); intro x hm) | ((with_reducible apply O_cvS hm); (iterate 2 (simp only [push_cast, seval]; rfl)); (focus (first | exact h2 _ _)); intro x hm) | ((with_reducible apply K_pair); (iterate 2 rfl); decide; (iterate 4 rfl); (focus ((repeat' (first | exact Rer_nil | ((with_reducible apply Rer_idx); (focus (simp only [push_cast, seval]; rfl)); (focus (simp only [push_cast, seval]; rfl)); rotate_left 2; (focus (first | (simp only [push_cast, seval]; rfl) | (simp only [push_cast, seval]; done))); rotate_left; (focus assumption); (focus (intro _; rfl))) | ((with_reducible apply Rer_cons); (focus (simp only [push_cast, seval]; rfl)); (focus (first | exact trivial | omega)); (focus (simp only [push_cast, seval]))))); done)); (focus ((repeat' (first | exact Rer_nil | ((with_reducible apply Rer_idx); (focus (simp only [push_cast, seval]; rfl)); (focus (simp only [push_cast, seval]; rfl)); rotate_left 2; (focus (first | (simp only [push_cast, seval]; rfl) | (simp only [push_cast, seval]; done))); rotate_left; (focus assumption); (focus (intro _; rfl))) | ((with_reducible apply Rer_cons); (focus (simp only [push_cast, seval]; rfl)); (focus (first | exact trivial | omega)); (focus (simp only [push_cast, seval]))))); done)); (focus ((repeat' (first | exact Rer_nil | ((with_reducible apply Rer_idx); (focus (simp only [push_cast, seval]; rfl)); (focus (simp only [push_cast, seval]; rfl)); rotate_left 2; (focus (first | (simp only [push_cast, seval]; rfl) | (simp only [push_cast, seval]; done))); rotate_left; (focus assumption); (focus (intro _; rfl))) | ((with_reducible apply Rer_cons); (focus (simp only [push_cast, seval]; rfl)); (focus (first | exact trivial | omega)); (focus (simp only [push_cast, seval]))))); done)); (focus ((repeat' (first | exact Rer_nil | ((with_reducible apply Rer_idx); (focus (simp only [push_cast, seval]; rfl)); (focus (simp only [push_cast, seval]; rfl)); rotate_left 2; (focus (first | (simp only [push_cast, seval]; rfl) | (simp only [push_cast, seval]; done))); rotate_left; (focus assumption); (focus (intro _; rfl))) | ((with_reducible apply Rer_cons); (focus (simp only [push_cast, seval]; rfl)); (focus (first | exact trivial | omega)); (focus (simp only [push_cast, seval]))))); done))) | ((with_reducible apply O_w); (simp only [push_cast, seval]; rfl); (first | exact trivial | omega)) | ((with_reducible apply O_stVA hm); (iterate 4 (simp only [push_cast, seval]; rfl)); (focus ((repeat' (first | rfl | (with_reducible first | apply ft1 | apply ft7 | apply ft4 | apply ft9 | apply ft5 | apply ft3 | apply ft8 | apply ft10 | apply ft2 | apply ft6 | apply ft12 | apply f_optN | apply f_optS | apply f_some | apply f_tup | apply f_agg | apply f_ptr | apply f_fn | apply dv_slice | apply sv_d | apply f_cons | apply fold_nil | apply fold_cons | apply fold_app | apply f_rowI | apply f_rowY | apply f_rowS | apply f_rowB | apply f_rowL) | (with_reducible apply f_byte; decide))); done)); decide; (intro _; rfl); intro e hm) | ((with_reducible apply O_stVAX hm); (iterate 3 (simp only [push_cast, seval]; rfl)); (focus ((repeat' (first | rfl | (with_reducible first | apply ft1 | apply ft7 | apply ft4 | apply ft9 | apply ft5 | apply ft3 | apply ft8 | apply ft10 | apply ft2 | apply ft6 | apply ft12 | apply f_optN | apply f_optS | apply f_some | apply f_tup | apply f_agg | apply f_ptr | apply f_fn | apply dv_slice | apply sv_d | apply f_cons | apply fold_nil | apply fold_cons | apply fold_app | apply f_rowI | apply f_rowY | apply f_rowS | apply f_rowB | apply f_rowL) | (with_reducible apply f_byte; decide))); done)); (intro _; rfl); (focus ((repeat' (first | exact Rer_nil | ((with_reducible apply Rer_idx); (focus (simp only [push_cast, seval]; rfl)); (focus (simp only [push_cast, seval]; rfl)); rotate_left 2; (focus (first | (simp only [push_cast, seval]; rfl) | (simp only [push_cast, seval]; done))); rotate_left; (focus assumption); (focus (intro _; rfl))) | ((with_reducible apply Rer_cons); (focus (simp only [push_cast, seval]; rfl)); (focus (first | exact trivial | omega)); (focus (simp only [push_cast, seval]))))); done)); intro e hm) | ((with_reducible apply O_x); (simp only [push_cast, seval]; rfl); (first | exact trivial | omega); (focus ((repeat' (first | exact Rer_nil | ((with_reducible apply Rer_idx); (focus (simp only [push_cast, seval]; rfl)); (focus (simp only [push_cast, seval]; rfl)); rotate_left 2; (focus (first | (simp only [push_cast, seval]; rfl) | (simp only [push_cast, seval]; done))); rotate_left; (focus assumption); (focus (intro _; rfl))) | ((with_reducible apply Rer_cons); (focus (simp only [push_cast, seval]; rfl)); (focus (first | exact trivial | omega)); (focus (simp only [push_cast, seval]))))); done))) | ((with_reducible apply S_condB hm); (simp only [push_cast, seval]; rfl); intro hm; rotate_left; intro hm) | ((with_reducible apply K_endS hm); (focus (simp only [resOf, resL, RV.get, push_cast, seval]; rfl)); (focus ((repeat' (first | rfl | (with_reducible first | apply ft1 | apply ft7 | apply ft4 | apply ft9 | apply ft5 | apply ft3 | apply ft8 | apply ft10 | apply ft2 | apply ft6 | apply ft12 | apply f_optN | apply f_optS | apply f_some | apply f_tup | apply f_agg | apply f_ptr | apply f_fn | apply dv_slice | apply sv_d | apply f_cons | apply fold_nil | apply fold_cons | apply fold_app | apply f_rowI | apply f_rowY | apply f_rowS | apply f_rowB | apply f_rowL) | (with_reducible apply f_byte; decide))); done))) | ((with_reducible apply K_bool hm); (simp only [push_cast, seval]; rfl)) | ((with_reducible apply K_leave hm); intro r hm) | ((with_reducible apply K_leaveR hm); intro r hm) | ((apply S_loopY (b := 0) (X := c168) (x := c167) rfl (fun (c : SV × SV × SV × SV) (s : Int) => st [(1, c.1), (2, c.2.1), (15, c.2.2.1), (16, c.2.2.2), (17, .d (.int .i64 s))] []) (c := (_, _, _, _)) (s0 := _) hm); (focus (first | (dsimp only; done) | (dsimp only; rfl) | rfl)); (with_reducible refine Then.mk ?_ ?_)) | ((apply S_loopY (b := 0) (X := c171) (x := c170) rfl (fun (c : SV × SV × SV × SV) (s : Int) => st [(1, c.1), (2, c.2.1), (15, c.2.2.1), (16, c.2.2.2), (17, .d (.int .i64 s))] []) (c := (_, _, _, _)) (s0 := _) hm); (focus (first | (dsimp only; done) | (dsimp only; rfl) | rfl)); (with_reducible refine Then.mk ?_ ?_)) | ((apply S_loopY (b := 2) (X := c175) (x := c174) rfl (fun (c : SV × SV × SV × Ch × Ch) (s : Int) => st [(2, c.1), (3, c.2.1), (5, c.2.2.1), (6, .ref 6 0), (7, .ref 7 0), (8, .d (.int .i64 s))] [(6, c.2.2.2.1), (7, c.2.2.2.2)]) (c := (_, _, _, _, _)) (s0 := _) hm); (focus (first | (dsimp only; done) | (dsimp only; rfl) | rfl)); (with_reducible refine Then.mk ?_ ?_)) | ((apply S_loopY (b := 0) (X := c177) (x := c176) rfl (fun (c : SV × SV) (s : Int) => st [(2, c.1), (3, c.2), (5, .d (.int .i64 s))] []) (c := (_, _)) (s0 := _) hm); (focus (first | (dsimp only; done) | (dsimp only; rfl) | rfl)); (with_reducible refine Then.mk ?_ ?_)) | ((apply S_loopY (b := 0) (X := c180) (x := c179) rfl (fun (c : SV × SV) (s : Int) => st [(0, c.1), (1, c.2), (5, .d (.int .i64 s))] []) (c := (_, _)) (s0 := _) hm); (focus (first | (dsimp only; done) | (dsimp only; rfl) | rfl)); (with_reducible refine Then.mk ?_ ?_)) | ((apply K_next (s' := _) hm); (focus (first | (dsimp only; done) | (dsimp only; rfl) | rfl))) | ((apply K_brk (s' := _) hm); (focus (first | (dsimp only; done) | (dsimp only; rfl) | rfl))) | (((with_reducible apply K_brkN hm); (focus decide); intro r hm)) | (((with_reducible apply K_brkR hm); intro r hm)) | (((with_reducible apply LoopB.of); (focus (first | (dsimp only; done) | (dsimp only; rfl) | rfl)); (focus ((intro _; repeat' (first | with_reducible exact impC_end | with_reducible exact impC_endF | with_reducible refine impC_seq ?_ | with_reducible refine impC_block ?_ | ((with_reducible refine impC_rnd ?_); intro _) | ((with_reducible refine impC_brk ?_); intro _))))); (intro s o hm; first | unfold c167 | unfold c170 | unfold c174 | unfold c176 | unfold c179); rotate_left; intro s hm)) | (((apply imp_stT; (repeat' (first | with_reducible exact keepT_nil | with_reducible exact keepC_nil | with_reducible apply keepT_cons | with_reducible apply keepC_cons | ((with_reducible apply svle_eq); (focus (first | (simp only [push_cast, seval]; rfl) | rfl)); (focus ((repeat' (first | rfl | (with_reducible first | apply ft1 | apply ft7 | apply ft4 | apply ft9 | apply ft5 | apply ft3 | apply ft8 | apply ft10 | apply ft2 | apply ft6 | apply ft12 | apply f_optN | apply f_optS | apply f_some | apply f_tup | apply f_agg | apply f_ptr | apply f_fn | apply dv_slice | apply sv_d | apply f_cons | apply fold_nil | apply fold_cons | apply fold_app | apply f_rowI | apply f_rowY | apply f_rowS | apply f_rowB | apply f_rowL) | (with_reducible apply f_byte; decide))); done))) | ((with_reducible apply svle_td); (focus (first | (simp only [push_cast, seval]; rfl) | rfl)); (focus (first | (simp only [push_cast, seval]; rfl) | rfl)); (focus ((repeat' (first | rfl | (with_reducible first | apply ft1 | apply ft7 | apply ft4 | apply ft9 | apply ft5 | apply ft3 | apply ft8 | apply ft10 | apply ft2 | apply ft6 | apply ft12 | apply f_optN | apply f_optS | apply f_some | apply f_tup | apply f_agg | apply f_ptr | apply f_fn | apply dv_slice | apply sv_d | apply f_cons | apply fold_nil | apply fold_cons | apply fold_app | apply f_rowI | apply f_rowY | apply f_rowS | apply f_rowB | apply f_rowL) | (with_reducible apply f_byte; decide))); done))) | ((with_reducible apply chle_eq); (focus (first | (simp only [push_cast, seval]; rfl) | rfl)); (first | with_reducible exact chle_rfl rfl | with_reducible exact chle_map0 | with_reducible apply chle_vec | with_reducible apply chle_box)) | (with_reducible first | apply ct1 | apply ct7 | apply ct4 | apply ct9 | apply ct5 | apply ct3 | apply ct8 | apply ct10 | apply ct2 | apply ct6 | apply ct12 | apply bct1 | apply bct2 | apply r_shS | apply r_shI | apply r_rflO | apply r_oneO | apply r_appO | apply r_nilO | apply c_ownN | apply c_ownL | apply vc_rfl | apply vc_nil | apply vc_cons | apply r_rfl | apply r_rows | apply r_nil | apply r_app | apply r_cons | apply c_rowI | apply c_rowY | apply c_rowS | apply c_rowB | apply c_rowL))); done)))))
noncomputable def m74 (x0 : List T4) (x1 : List T9) (f2 : FuncId) (c2 : List DV) (p2 : T4 → T9 → Option (Bool)) (h2 : ∀ a0 a1 r, p2 a0 a1 = some r → PureSpec Tryz.prog f2 ([.agg (r8 a0), .agg (r13 a1)] ++ c2) (.bool r)) : Option (Bool) := (w20.1 x0 x1 f2 c2 p2 h2).1
theorem s70 (x0 : List T4) (x1 : List T9) (f2 : FuncId) (c2 : List DV) (p2 : T4 → T9 → Option (Bool)) (h2 : ∀ a0 a1 r, p2 a0 a1 = some r → PureSpec Tryz.prog f2 ([.agg (r8 a0), .agg (r13 a1)] ++ c2) (.bool r)) : ∀ r, m74 x0 x1 f2 c2 p2 h2 = some r → PureSpec Tryz.prog 56 [.slice (List.map r8 x0), .slice (List.map r13 x1), .fn f2 c2] (.bool r) := (w20.1 x0 x1 f2 c2 p2 h2).2
noncomputable def m75 (x0 : List T3) (x1 : List T8) (f2 : FuncId) (c2 : List DV) (p2 : T3 → T8 → Option (Bool)) (h2 : ∀ a0 a1 r, p2 a0 a1 = some r → PureSpec Tryz.prog f2 ([.agg (r7 a0), .agg (r12 a1)] ++ c2) (.bool r)) : Option (Bool) := (w20.2.1 x0 x1 f2 c2 p2 h2).1
theorem s71 (x0 : List T3) (x1 : List T8) (f2 : FuncId) (c2 : List DV) (p2 : T3 → T8 → Option (Bool)) (h2 : ∀ a0 a1 r, p2 a0 a1 = some r → PureSpec Tryz.prog f2 ([.agg (r7 a0), .agg (r12 a1)] ++ c2) (.bool r)) : ∀ r, m75 x0 x1 f2 c2 p2 h2 = some r → PureSpec Tryz.prog 58 [.slice (List.map r7 x0), .slice (List.map r12 x1), .fn f2 c2] (.bool r) := (w20.2.1 x0 x1 f2 c2 p2 h2).2
noncomputable def m76 (x0 : T3) (x1 : T8) : Option (Bool) := (w20.2.2.1 x0 x1).1
theorem s72 (x0 : T3) (x1 : T8) : ∀ r, m76 x0 x1 = some r → PureSpec Tryz.prog 59 [.agg (r7 x0), .agg (r12 x1)] (.bool r) := (w20.2.2.1 x0 x1).2
noncomputable def m77 (x0 : T5) (x1 : T10) : Option (Bool) := (w20.2.2.2.1 x0 x1).1
theorem s73 (x0 : T5) (x1 : T10) : ∀ r, m77 x0 x1 = some r → PureSpec Tryz.prog 27 [.agg (r9 x0), .agg (r14 x1)] (.bool r) := (w20.2.2.2.1 x0 x1).2
noncomputable def m78 (x0 : List (List UInt8)) (x1 : List (List UInt8)) : Option (Bool) := (w20.2.2.2.2.1 x0 x1).1
theorem s74 (x0 : List (List UInt8)) (x1 : List (List UInt8)) : ∀ r, m78 x0 x1 = some r → PureSpec Tryz.prog 86 [.slice (List.map rowS x0), .slice (List.map rowS x1)] (.bool r) := (w20.2.2.2.2.1 x0 x1).2
noncomputable def m79 (x0 : T12) (x1 : Int) : Option (Int) := (w20.2.2.2.2.2 x0 x1).1
theorem s75 (x0 : T12) (x1 : Int) : ∀ r, m79 x0 x1 = some r → PureSpec Tryz.prog 68 [.agg (r16 x0), .int .i64 x1] (.int .i64 r) := (w20.2.2.2.2.2 x0 x1).2
def c183 : SC :=
  (.regE [.r 22 (.mv (.t 6)),
   .r 23 (.fld 3 (.t 8)),
   .r 24 (.ld1 (.t 23)),
   .r 25 (.mv (.t 6)),
   .r 26 (.fld 3 (.t 8)),
   .r 27 (.ld1 (.t 26)),
   .r 28 (.look .str (.nils) false (.t 25) (.t 27)),
   .r 29 (.mv (.t 4)),
   .r 30 (.len (.t 29)),
   .r 31 (.bslice 1 [.t 30]),
   .x 32 (.app 3 1 (.t 28) (.t 31)) [(0, 22, .mv (.t 6)), (1, 23, .fld 3 (.t 8)), (2, 24, .ld1 (.t 23))],
   .x 0 (.mset .str (.t 22) (.t 24) (.t 32)) []])
def c184 : SC :=
  (.seq (.reg [.r 15 (.bin .lss (.t 14) (.t 13))])
  (.seq (.cond (.t 15)
    .skip
    (.exit 0))
  (.seq (.block 1 (.seq (.reg [.r 16 (.mv (.t 14)),
       .r 17 (.idx 5 (.t 12) (.t 14)),
       .o 18 (.ldA 5 (.t 17)),
       .w 8 (.boxM (.c (.agg [.d (.int .i64 0), .d (.int .i64 0), .d (.int .i64 0), .d (.str []), .d (.int .i64 0)]))),
       .r 7 (.mv (.t 16)),
       .w 0 (.st 5 (.t 8) (.t 18))])
    (.seq (.seq (.reg [.r 19 (.fld 0 (.t 8)),
       .o 20 (.ld1 (.t 19)),
       .r 21 (.bin .eql (.t 20) (.c (.d (.int .i64 1))))])
    (.cond (.t 21)
      (.seq c183
      (.seq (.reg [.r 33 (.mv (.t 4)),
         .r 34 (.fld 3 (.t 8)),
         .o 35 (.ld1 (.t 34)),
         .r 36 (.fld 1 (.t 8)),
         .o 37 (.ld1 (.t 36)),
         .r 38 (.fld 2 (.t 8)),
         .o 39 (.ld1 (.t 38)),
         .r 40 (.build [.d (.str []), .d (.int .i64 0), .d (.int .i64 0), .d (.int .i64 0), .d (.int .i64 0)] [(0, 1, .t 35), (1, 1, .t 37), (2, 1, .t 39), (3, 1, .c (.d (.int .i64 (-1))))]),
         .r 41 (.bslice 5 [.t 40]),
         .w 42 (.app 122 5 (.t 33) (.t 41)),
         .r 4 (.mv (.t 42))])
      (.exit 1)))
      .skip))
    (.seq (.reg [.r 43 (.mv (.t 6)),
       .r 44 (.fld 3 (.t 8)),
       .o 45 (.ld1 (.t 44)),
       .o 46 (.look .str (.nils) false (.t 43) (.t 45)),
       .r 9 (.mv (.t 46))])
    (.seq (.seq (.reg [.r 47 (.mv (.t 9)),
       .r 48 (.len (.t 47)),
       .r 49 (.bin .eql (.t 48) (.c (.d (.int .i64 0))))])
    (.cond (.t 49)
      (.seq (.reg [.r 50 (.mv (.t 5)),
         .r 51 (.mv (.t 7)),
         .r 52 (.bslice 1 [.t 51]),
         .w 53 (.app 3 1 (.t 50) (.t 52)),
         .r 5 (.mv (.t 53))])
      (.exit 1))
      .skip))
    (.seq (.reg [.r 54 (.mv (.t 4)),
       .r 55 (.mv (.t 9)),
       .r 56 (.mv (.t 9)),
       .r 57 (.len (.t 56)),
       .r 58 (.bin .sub (.t 57) (.c (.d (.int .i64 1)))),
       .r 59 (.idx 1 (.t 55) (.t 58)),
       .o 60 (.ld1 (.t 59)),
       .r 61 (.idx 5 (.t 54) (.t 60)),
       .r 10 (.mv (.t 61))])
    (.seq (.regE [.r 62 (.mv (.t 10)),
       .r 63 (.mv (.t 10)),
       .r 64 (.fld 1 (.t 8)),
       .r 65 (.ld1 (.t 64)),
       .r 66 (.fld 4 (.t 8)),
       .r 67 (.ld1 (.t 66)),
       .r 68 (.nilc (.t 62)),
       .r 69 (.fld 3 (.t 68)),
       .x 0 (.st 1 (.t 69) (.t 65)) [(1, 63, .mv (.t 10)), (4, 66, .fld 4 (.t 8)), (5, 67, .ld1 (.t 66))],
       .r 70 (.nilc (.t 63)),
       .r 71 (.fld 4 (.t 70)),
       .x 0 (.st 1 (.t 71) (.t 67)) []])
    (.regE [.r 72 (.mv (.t 6)),
       .r 73 (.fld 3 (.t 8)),
       .r 74 (.ld1 (.t 73)),
       .r 75 (.mv (.t 9)),
       .r 76 (.mv (.t 9)),
       .r 77 (.len (.t 76)),
       .r 78 (.bin .sub (.t 77) (.c (.d (.int .i64 1)))),
       .x 79 (.trunc 1 (.t 75) (.t 78)) [(0, 72, .mv (.t 6)), (1, 73, .fld 3 (.t 8)), (2, 74, .ld1 (.t 73))],
       .x 0 (.mset .str (.t 72) (.t 74) (.t 79)) []]))))))))
  (.reg [.r 80 (.bin .add (.t 14) (.c (.d (.int .i64 1)))),
     .r 14 (.mv (.t 80))]))))
def c185 : SC := .block 0 (.loop c184)
def c186 : SC :=
  (.seq (.reg [.r 2 (.mv (.c (.nils))),
     .r 3 (.mv (.c (.nils)))])
  (.seq (.reg [.r 4 (.mv (.c (.nils)))])
  (.seq (.reg [.r 5 (.mv (.c (.nils)))])
  (.seq (.reg [.w 11 (.mkmap .str),
     .r 6 (.mv (.t 11))])
  (.seq (.seq (.reg [.r 12 (.mv (.t 0)),
     .r 13 (.len (.t 12)),
     .r 14 (.mv (.c (.d (.int .i64 0))))])
  c185)
  (.seq (.reg [.r 81 (.mv (.t 4)),
     .r 82 (.mv (.t 5)),
     .r 2 (.mv (.t 81)),
     .r 3 (.mv (.t 82))])
  .ret))))))
theorem k82 : fits Tryz.prog 102 Tryz.f102 c186 [.t 2, .t 3] 1 = true := by kernel_rfl
set_option maxRecDepth 100000 in
set_option maxHeartbeats 40000000 in
noncomputable def w21 : (∀ (x0 : List T11), {m : Option ((List T12) × (List Int)) // ∀ r, m = some r → PureSpec Tryz.prog 102 [.slice (List.map r15 x0)] (.tup [.slice (List.map r16 r.1), .slice (List.map rowI r.2)])}) := by
  (intro x0; apply Subtype.mk; intro r hm; apply pure_walk Tryz.func102 k82; unfold c186)
  repeat' (first | with_reducible refine W_seq ?_ | with_reducible refine W_reg ?_ | with_reducible refine W_regE ?_ | with_reducible refine W_block ?_ | with_reducible refine W_skip ?_ | with_reducible refine W_ret ?_ | with_reducible refine W_exit ?_ | with_reducible refine O_nil ?_ | with_reducible refine K_seq ?_ | with_reducible refine K_seqE ?_ | with_reducible refine K_seqR ?_ | with_reducible refine K_block ?_ | with_reducible refine K_blockR ?_ | with_reducible refine K_blockE ?_ | ((with_reducible apply K_blockN); decide) | ((with_reducible apply O_lookO hm); (iterate 3 (simp only [push_cast, seval, -List.reduceReplicate]; rfl)); decide; (intro _; rfl); rfl; (focus (simp only [push_cast, seval, -List.reduceReplicate]; done)); (focus (simp only [push_cast, seval, -List.reduceReplicate]; done)); intro hm; rotate_left; intro w hm) | with_reducible refine O_o2r ?_ | ((with_reducible apply O_idxr hm); (iterate 2 (simp only [push_cast, seval, -List.reduceReplicate]; rfl)); (intro _; rfl); intro e hm) | ((with_reducible apply O_idxVr hm); (iterate 3 (simp only [push_cast, seval, -List.reduceReplicate]; rfl)); intro e hm) | ((with_reducible apply O_nilcO hm); (simp only [push_cast, seval, -List.reduceReplicate]; rfl); intro a hm) | ((with_reducible apply O_idxLr hm (row := rowI)); (iterate 2 (simp only [push_cast, seval, -List.reduceReplicate]; rfl)); (focus ((repeat' (first | rfl | (with_reducible first | apply ft11 | apply ft12 | apply f_optN | apply f_optS | apply f_some | apply f_tup | apply f_agg | apply f_ptr | apply f_fn | apply dv_slice | apply sv_d | apply f_cons | apply fold_nil | apply fold_cons | apply fold_app | apply f_rowI | apply f_rowY | apply f_rowS | apply f_rowB | apply f_rowL) | (with_reducible apply f_byte; decide))); done)); (simp only [push_cast, seval, -List.reduceReplicate]; rfl); (intro _; rfl); intro e hm) | ((with_reducible apply O_idxLr hm (row := r16)); (iterate 2 (simp only [push_cast, seval, -List.reduceReplicate]; rfl)); (focus ((repeat' (first | rfl | (with_reducible first | apply ft11 | apply ft12 | apply f_optN | apply f_optS | apply f_some | apply f_tup | apply f_agg | apply f_ptr | apply f_fn | apply dv_slice | apply sv_d | apply f_cons | apply fold_nil | apply fold_cons | apply fold_app | apply f_rowI | apply f_rowY | apply f_rowS | apply f_rowB | apply f_rowL) | (with_reducible apply f_byte; decide))); done)); (simp only [push_cast, seval, -List.reduceReplicate]; rfl); (intro _; rfl); intro e hm) | ((with_reducible apply O_r); (simp only [push_cast, seval, -List.reduceReplicate]; rfl); (first | exact trivial | omega)) | ((with_reducible apply O_ldV1r hm); (iterate 2 (simp only [push_cast, seval, -List.reduceReplicate]; rfl)); (intro _; rfl); intro e hm) | ((with_reducible apply O_ldAVr hm); (iterate 2 (simp only [push_cast, seval, -List.reduceReplicate]; rfl)); (intro _; rfl); intro e hm) | ((with_reducible apply O_strr hm); (iterate 2 (simp only [push_cast, seval, -List.reduceReplicate]; rfl)); intro hm) | ((with_reducible apply O_or hm); (simp only [push_cast, seval, -List.reduceReplicate]; rfl); rfl; intro v hm; rotate_left; intro v g hm) | ((with_reducible apply W_condT); (focus (simp only [push_cast, seval, -List.reduceReplicate]; done))) | ((with_reducible apply W_condF); (focus (simp only [push_cast, seval, -List.reduceReplicate]; done))) | ((with_reducible apply O_w); (simp only [push_cast, seval, -List.reduceReplicate]; rfl); (first | exact trivial | omega)) | ((with_reducible apply O_appL hm (row := rowI)); (iterate 5 (simp only [push_cast, seval, -List.reduceReplicate]; rfl)); (focus ((repeat' (first | rfl | (with_reducible first | apply ft11 | apply ft12 | apply f_optN | apply f_optS | apply f_some | apply f_tup | apply f_agg | apply f_ptr | apply f_fn | apply dv_slice | apply sv_d | apply f_cons | apply fold_nil | apply fold_cons | apply fold_app | apply f_rowI | apply f_rowY | apply f_rowS | apply f_rowB | apply f_rowL) | (with_reducible apply f_byte; decide))); done)); (focus ((repeat' (first | rfl | (with_reducible first | apply ft11 | apply ft12 | apply f_optN | apply f_optS | apply f_some | apply f_tup | apply f_agg | apply f_ptr | apply f_fn | apply dv_slice | apply sv_d | apply f_cons | apply fold_nil | apply fold_cons | apply fold_app | apply f_rowI | apply f_rowY | apply f_rowS | apply f_rowB | apply f_rowL) | (with_reducible apply f_byte; decide))); done)); rfl; decide; (intro _; rfl); intro hm) | ((with_reducible apply O_appL hm (row := r16)); (iterate 5 (simp only [push_cast, seval, -List.reduceReplicate]; rfl)); (focus ((repeat' (first | rfl | (with_reducible first | apply ft11 | apply ft12 | apply f_optN | apply f_optS | apply f_some | apply f_tup | apply f_agg | apply f_ptr | apply f_fn | apply dv_slice | apply sv_d | apply f_cons | apply fold_nil | apply fold_cons | apply fold_app | apply f_rowI | apply f_rowY | apply f_rowS | apply f_rowB | apply f_rowL) | (with_reducible apply f_byte; decide))); done)); (focus ((repeat' (first | rfl | (with_reducible first | apply ft11 | apply ft12 | apply f_optN | apply f_optS | apply f_some | apply f_tup | apply f_agg | apply f_ptr | apply f_fn | apply dv_slice | apply sv_d | apply f_cons | apply fold_nil | apply fold_cons | apply fold_app | apply f_rowI | apply f_rowY | apply f_rowS | apply f_rowB | apply f_rowL) | (with_reducible apply f_byte; decide))); done)); rfl; decide; (intro _; rfl); intro hm) | ((with_reducible apply O_appV hm); (iterate 4 (simp only [push_cast, seval, -List.reduceReplicate]; rfl)); (focus ((repeat' (first | rfl | (with_reducible first | apply ft11 | apply ft12 | apply f_optN | apply f_optS | apply f_some | apply f_tup | apply f_agg | apply f_ptr | apply f_fn | apply dv_slice | apply sv_d | apply f_cons | apply fold_nil | apply fold_cons | apply fold_app | apply f_rowI | apply f_rowY | apply f_rowS | apply f_rowB | apply f_rowL) | (with_reducible apply f_byte; decide))); done)); decide; (intro _; rfl); intro hm) | ((with_reducible apply O_appN hm); (focus (simp only [push_cast, seval, -List.reduceReplicate]; done)); (iterate 2 (simp only [push_cast, seval, -List.reduceReplicate]; rfl)); (focus ((repeat' (first | rfl | (with_reducible first | apply ft11 | apply ft12 | apply f_optN | apply f_optS | apply f_some | apply f_tup | apply f_agg | apply f_ptr | apply f_fn | apply dv_slice | apply sv_d | apply f_cons | apply fold_nil | apply fold_cons | apply fold_app | apply f_rowI | apply f_rowY | apply f_rowS | apply f_rowB | apply f_rowL) | (with_reducible apply f_byte; decide))); done)); decide; (intro _; rfl); intro hm) | ((with_reducible apply O_stVA hm); (iterate 4 (simp only [push_cast, seval, -List.reduceReplicate]; rfl)); (focus ((repeat' (first | rfl | (with_reducible first | apply ft11 | apply ft12 | apply f_optN | apply f_optS | apply f_some | apply f_tup | apply f_agg | apply f_ptr | apply f_fn | apply dv_slice | apply sv_d | apply f_cons | apply fold_nil | apply fold_cons | apply fold_app | apply f_rowI | apply f_rowY | apply f_rowS | apply f_rowB | apply f_rowL) | (with_reducible apply f_byte; decide))); done)); decide; (intro _; rfl); intro e hm) | ((with_reducible apply O_stV hm); (iterate 3 (simp only [push_cast, seval, -List.reduceReplicate]; rfl)); rfl; (intro _; rfl); rfl; (focus (intro a; simp only [push_cast, seval, -List.reduceReplicate]; rfl)); (focus (intro a; (repeat' (first | rfl | with_reducible apply et10 | with_reducible apply et11)); done)); intro e hm) | ((with_reducible apply O_stVAX hm); (iterate 3 (simp only [push_cast, seval, -List.reduceReplicate]; rfl)); (focus ((repeat' (first | rfl | (with_reducible first | apply ft11 | apply ft12 | apply f_optN | apply f_optS | apply f_some | apply f_tup | apply f_agg | apply f_ptr | apply f_fn | apply dv_slice | apply sv_d | apply f_cons | apply fold_nil | apply fold_cons | apply fold_app | apply f_rowI | apply f_rowY | apply f_rowS | apply f_rowB | apply f_rowL) | (with_reducible apply f_byte; decide))); done)); (intro _; rfl); (focus ((repeat' (first | exact Rer_nil | ((with_reducible apply Rer_cons); (focus (simp only [push_cast, seval, -List.reduceReplicate]; rfl)); (focus (first | exact trivial | omega)); (focus (simp only [push_cast, seval, -List.reduceReplicate]))))); done)); intro e hm) | ((with_reducible apply O_appVX hm); (iterate 2 (simp only [push_cast, seval, -List.reduceReplicate]; rfl)); (focus ((repeat' (first | rfl | (with_reducible first | apply eR_nil | apply eR_app | apply eR_cons | apply et10 | apply et11 | apply eR_I | apply eR_Y | apply eR_S | apply eR_B) | (with_reducible apply sv_d; (focus ((repeat' (first | rfl | (with_reducible first | apply ft11 | apply ft12 | apply f_optN | apply f_optS | apply f_some | apply f_tup | apply f_agg | apply f_ptr | apply f_fn | apply dv_slice | apply sv_d | apply f_cons | apply fold_nil | apply fold_cons | apply fold_app | apply f_rowI | apply f_rowY | apply f_rowS | apply f_rowB | apply f_rowL) | (with_reducible apply f_byte; decide))); done))))); done)); (simp only [push_cast, seval, -List.reduceReplicate]; rfl); (focus ((repeat' (first | rfl | (with_reducible first | apply eR_nil | apply eR_app | apply eR_cons | apply et10 | apply et11 | apply eR_I | apply eR_Y | apply eR_S | apply eR_B) | (with_reducible apply sv_d; (focus ((repeat' (first | rfl | (with_reducible first | apply ft11 | apply ft12 | apply f_optN | apply f_optS | apply f_some | apply f_tup | apply f_agg | apply f_ptr | apply f_fn | apply dv_slice | apply sv_d | apply f_cons | apply fold_nil | apply fold_cons | apply fold_app | apply f_rowI | apply f_rowY | apply f_rowS | apply f_rowB | apply f_rowL) | (with_reducible apply f_byte; decide))); done))))); done)); (intro _; rfl); (focus ((repeat' (first | exact Rer_nil | ((with_reducible apply Rer_cons); (focus (simp only [push_cast, seval, -List.reduceReplicate]; rfl)); (focus (first | exact trivial | omega)); (focus (simp only [push_cast, seval, -List.reduceReplicate]))))); done)); intro hm) | ((with_reducible apply O_appX2 hm); (iterate 4 (simp only [push_cast, seval, -List.reduceReplicate]; rfl)); rfl; (focus ((repeat' (first | exact Rer_nil | ((with_reducible apply Rer_cons); (focus (simp only [push_cast, seval, -List.reduceReplicate]; rfl)); (focus (first | exact trivial | omega)); (focus (simp only [push_cast, seval, -List.reduceReplicate]))))); done)); intro hm) | ((with_reducible apply O_appNX hm); (focus (simp only [push_cast, seval, -List.reduceReplicate]; done)); (iterate 2 (simp only [push_cast, seval, -List.reduceReplicate]; rfl)); rfl; (focus ((repeat' (first | exact Rer_nil | ((with_reducible apply Rer_cons); (focus (simp only [push_cast, seval, -List.reduceReplicate]; rfl)); (focus (first | exact trivial | omega)); (focus (simp only [push_cast, seval, -List.reduceReplicate]))))); done)); intro hm) | ((with_reducible apply O_stVX hm); (iterate 3 (simp only [push_cast, seval, -List.reduceReplicate]; rfl)); rfl; (intro _; rfl); rfl; (focus (intro a; simp only [push_cast, seval, -List.reduceReplicate]; rfl)); (focus (intro a; (repeat' (first | rfl | with_reducible apply et10 | with_reducible apply et11)); done)); (focus (intro _; (repeat' (first | exact Rer_nil | ((with_reducible apply Rer_cons); (focus (simp only [push_cast, seval, -List.reduceReplicate]; rfl)); (focus (first | exact trivial | omega)); (focus (simp only [push_cast, seval, -List.reduceReplicate]))))); done)); intro e hm) | ((with_reducible apply O_truncX hm); (iterate 3 (simp only [push_cast, seval, -List.reduceReplicate]; rfl)); (focus (intro _; (repeat' (first | exact Rer_nil | ((with_reducible apply Rer_cons); (focus (simp only [push_cast, seval, -List.reduceReplicate]; rfl)); (focus (first | exact trivial | omega)); (focus (simp only [push_cast, seval, -List.reduceReplicate]))))); done)); intro l hm) | ((with_reducible apply O_x); (simp only [push_cast, seval, -List.reduceReplicate]; rfl); (first | exact trivial | omega); (focus ((repeat' (first | exact Rer_nil | ((with_reducible apply Rer_cons); (focus (simp only [push_cast, seval, -List.reduceReplicate]; rfl)); (focus (first | exact trivial | omega)); (focus (simp only [push_cast, seval, -List.reduceReplicate]))))); done))) | ((with_reducible apply O_lookM); (iterate 3 (simp only [push_cast, seval, -List.reduceReplicate]; rfl)); (focus (first | exact look_none (by assumption) | exact look_set)); rfl) | ((with_reducible apply S_condB hm); (simp only [push_cast, seval, -List.reduceReplicate]; rfl); intro hm; rotate_left; intro hm) | ((with_reducible apply K_end2 hm); (focus (simp only [resOf, resL, RV.get, push_cast, seval]; rfl)); (focus (first | (dsimp only; done) | (dsimp only; rfl) | rfl)); (focus ((repeat' (first | rfl | (with_reducible first | apply ft11 | apply ft12 | apply f_optN | apply f_optS | apply f_some | apply f_tup | apply f_agg | apply f_ptr | apply f_fn | apply dv_slice | apply sv_d | apply f_cons | apply fold_nil | apply fold_cons | apply fold_app | apply f_rowI | apply f_rowY | apply f_rowS | apply f_rowB | apply f_rowL) | (with_reducible apply f_byte; decide))); done))) | ((with_reducible apply K_leave hm); intro r hm) | ((with_reducible apply K_leaveR hm); intro r hm) | ((apply S_loopY (b := 0) (X := c185) (x := c184) rfl (fun (c : SV × SV) (s : (List T12) × (List Int) × (List ((List UInt8) × (List Int))) × Int) => st [(4, .vec 4), (5, .vec 5), (6, .mp 11), (12, c.1), (13, c.2), (14, .d (.int .i64 s.2.2.2))] [(4, .vec 122 5 (vrow r16 s.1)), (5, .vec 3 1 (vrow rowI s.2.1)), (11, .map .str (encM .str (ownV 3 (List.replicate 1 .sh) rowI) s.2.2.1))]) (c := (_, _)) (s0 := (_, _, _, _)) hm); (focus (first | (dsimp only; done) | (dsimp only; rfl) | rfl)); (with_reducible refine Then.mk ?_ ?_); apply Imp.trans; (focus (apply imp_vecnil (slot := 4) (id := 4) (e := 122) (sz := 5); (focus (simp only [push_cast, seval, -List.reduceReplicate]; done)))); apply Imp.trans; (focus (apply imp_vecnil (slot := 5) (id := 5) (e := 3) (sz := 1); (focus (simp only [push_cast, seval, -List.reduceReplicate]; done))))) | ((apply W_openM (x := c183) 32 6 8 3 hm); (focus (simp only [push_cast, seval, -List.reduceReplicate]; rfl)); (focus (simp only [push_cast, seval, -List.reduceReplicate]; rfl)); (focus (simp only [push_cast, seval, -List.reduceReplicate]; rfl)); (focus decide); (focus (intro _; rfl)); (intro hl hm; unfold c183); rotate_left; (intro w hm; unfold c183)) | ((apply K_next (s' := (_, _, _, _)) hm); (focus (first | (dsimp only; done) | (dsimp only; rfl) | rfl)); (focus ((apply imp_stT; (repeat' (first | with_reducible exact keepT_nil | with_reducible exact keepC_nil | with_reducible apply keepT_cons | with_reducible apply keepC_cons | ((with_reducible apply svle_eq); (focus (first | (simp only [push_cast, seval]; rfl) | rfl)); (focus ((repeat' (first | rfl | (with_reducible first | apply ft11 | apply ft12 | apply f_optN | apply f_optS | apply f_some | apply f_tup | apply f_agg | apply f_ptr | apply f_fn | apply dv_slice | apply sv_d | apply f_cons | apply fold_nil | apply fold_cons | apply fold_app | apply f_rowI | apply f_rowY | apply f_rowS | apply f_rowB | apply f_rowL) | (with_reducible apply f_byte; decide))); done))) | ((with_reducible apply svle_td); (focus (first | (simp only [push_cast, seval]; rfl) | rfl)); (focus (first | (simp only [push_cast, seval]; rfl) | rfl)); (focus ((repeat' (first | rfl | (with_reducible first | apply ft11 | apply ft12 | apply f_optN | apply f_optS | apply f_some | apply f_tup | apply f_agg | apply f_ptr | apply f_fn | apply dv_slice | apply sv_d | apply f_cons | apply fold_nil | apply fold_cons | apply fold_app | apply f_rowI | apply f_rowY | apply f_rowS | apply f_rowB | apply f_rowL) | (with_reducible apply f_byte; decide))); done))) | ((with_reducible apply chle_eq); (focus (first | (simp only [push_cast, seval]; rfl) | rfl)); (first | with_reducible exact chle_rfl rfl | with_reducible exact chle_map0 | with_reducible apply chle_vec | with_reducible apply chle_box)) | (with_reducible first | apply ct11 | apply ct12 | apply r_shS | apply r_shI | apply r_rflO | apply r_oneO | apply r_appO | apply r_nilO | apply c_ownN | apply c_ownL | apply vc_rfl | apply vc_nil | apply vc_cons | apply r_rfl | apply r_rows | apply r_nil | apply r_app | apply r_cons | apply c_rowI | apply c_rowY | apply c_rowS | apply c_rowB | apply c_rowL))); done)))) | ((apply K_brk (s' := (_, _, _, _)) hm); (focus (first | (dsimp only; done) | (dsimp only; rfl) | rfl)); (focus ((apply imp_stT; (repeat' (first | with_reducible exact keepT_nil | with_reducible exact keepC_nil | with_reducible apply keepT_cons | with_reducible apply keepC_cons | ((with_reducible apply svle_eq); (focus (first | (simp only [push_cast, seval]; rfl) | rfl)); (focus ((repeat' (first | rfl | (with_reducible first | apply ft11 | apply ft12 | apply f_optN | apply f_optS | apply f_some | apply f_tup | apply f_agg | apply f_ptr | apply f_fn | apply dv_slice | apply sv_d | apply f_cons | apply fold_nil | apply fold_cons | apply fold_app | apply f_rowI | apply f_rowY | apply f_rowS | apply f_rowB | apply f_rowL) | (with_reducible apply f_byte; decide))); done))) | ((with_reducible apply svle_td); (focus (first | (simp only [push_cast, seval]; rfl) | rfl)); (focus (first | (simp only [push_cast, seval]; rfl) | rfl)); (focus ((repeat' (first | rfl | (with_reducible first | apply ft11 | apply ft12 | apply f_optN | apply f_optS | apply f_some | apply f_tup | apply f_agg | apply f_ptr | apply f_fn | apply dv_slice | apply sv_d | apply f_cons | apply fold_nil | apply fold_cons | apply fold_app | apply f_rowI | apply f_rowY | apply f_rowS | apply f_rowB | apply f_rowL) | (with_reducible apply f_byte; decide))); done))) | ((with_reducible apply chle_eq); (focus (first | (simp only [push_cast, seval]; rfl) | rfl)); (first | with_reducible exact chle_rfl rfl | with_reducible exact chle_map0 | with_reducible apply chle_vec | with_reducible apply chle_box)) | (with_reducible first | apply ct11 | apply ct12 | apply r_shS | apply r_shI | apply r_rflO | apply r_oneO | apply r_appO | apply r_nilO | apply c_ownN | apply c_ownL | apply vc_rfl | apply vc_nil | apply vc_cons | apply r_rfl | apply r_rows | apply r_nil | apply r_app | apply r_cons | apply c_rowI | apply c_rowY | apply c_rowS | apply c_rowB | apply c_rowL))); done)))) | ((apply K_next (s' := (_, _, _, _)) hm); (focus (first | (dsimp only; done) | (dsimp only; rfl) | rfl)); (focus (apply Imp.trans; (focus (apply imp_closeR (id := 11) (id' := 28); (focus decide); (focus (simp only [push_cast, seval, -List.reduceReplicate]; rfl)); (focus rfl); (focus (simp only [push_cast, seval, -List.reduceReplicate]; rfl)); (focus ((repeat' (first | (with_reducible first | apply ct11 | apply ct12 | apply r_shS | apply r_shI | apply r_rflO | apply r_oneO | apply r_appO | apply r_nilO | apply c_ownN | apply c_ownL | apply vc_rfl | apply vc_nil | apply vc_cons | apply r_rfl | apply r_rows | apply r_nil | apply r_app | apply r_cons | apply c_rowI | apply c_rowY | apply c_rowS | apply c_rowB | apply c_rowL) | ((with_reducible apply svle_rfl); (focus ((repeat' (first | rfl | (with_reducible first | apply ft11 | apply ft12 | apply f_optN | apply f_optS | apply f_some | apply f_tup | apply f_agg | apply f_ptr | apply f_fn | apply dv_slice | apply sv_d | apply f_cons | apply fold_nil | apply fold_cons | apply fold_app | apply f_rowI | apply f_rowY | apply f_rowS | apply f_rowB | apply f_rowL) | (with_reducible apply f_byte; decide))); done))))); done)); (focus (intro _; rfl)))); (apply imp_stT; (repeat' (first | with_reducible exact keepT_nil | with_reducible exact keepC_nil | with_reducible apply keepT_cons | with_reducible apply keepC_cons | ((with_reducible apply svle_eq); (focus (first | (simp only [push_cast, seval]; rfl) | rfl)); (focus ((repeat' (first | rfl | (with_reducible first | apply ft11 | apply ft12 | apply f_optN | apply f_optS | apply f_some | apply f_tup | apply f_agg | apply f_ptr | apply f_fn | apply dv_slice | apply sv_d | apply f_cons | apply fold_nil | apply fold_cons | apply fold_app | apply f_rowI | apply f_rowY | apply f_rowS | apply f_rowB | apply f_rowL) | (with_reducible apply f_byte; decide))); done))) | ((with_reducible apply svle_td); (focus (first | (simp only [push_cast, seval]; rfl) | rfl)); (focus (first | (simp only [push_cast, seval]; rfl) | rfl)); (focus ((repeat' (first | rfl | (with_reducible first | apply ft11 | apply ft12 | apply f_optN | apply f_optS | apply f_some | apply f_tup | apply f_agg | apply f_ptr | apply f_fn | apply dv_slice | apply sv_d | apply f_cons | apply fold_nil | apply fold_cons | apply fold_app | apply f_rowI | apply f_rowY | apply f_rowS | apply f_rowB | apply f_rowL) | (with_reducible apply f_byte; decide))); done))) | ((with_reducible apply chle_eq); (focus (first | (simp only [push_cast, seval]; rfl) | rfl)); (first | with_reducible exact chle_rfl rfl | with_reducible exact chle_map0 | with_reducible apply chle_vec | with_reducible apply chle_box)) | (with_reducible first | apply ct11 | apply ct12 | apply r_shS | apply r_shI | apply r_rflO | apply r_oneO | apply r_appO | apply r_nilO | apply c_ownN | apply c_ownL | apply vc_rfl | apply vc_nil | apply vc_cons | apply r_rfl | apply r_rows | apply r_nil | apply r_app | apply r_cons | apply c_rowI | apply c_rowY | apply c_rowS | apply c_rowB | apply c_rowL))); done)))) | ((apply K_next (s' := (_, _, _, _)) hm); (focus (first | (dsimp only; done) | (dsimp only; rfl) | rfl)); (focus (apply Imp.trans; (focus (apply imp_closeR (id := 11) (id' := 32); (focus decide); (focus (simp only [push_cast, seval, -List.reduceReplicate]; rfl)); (focus rfl); (focus (simp only [push_cast, seval, -List.reduceReplicate]; rfl)); (focus ((repeat' (first | (with_reducible first | apply ct11 | apply ct12 | apply r_shS | apply r_shI | apply r_rflO | apply r_oneO | apply r_appO | apply r_nilO | apply c_ownN | apply c_ownL | apply vc_rfl | apply vc_nil | apply vc_cons | apply r_rfl | apply r_rows | apply r_nil | apply r_app | apply r_cons | apply c_rowI | apply c_rowY | apply c_rowS | apply c_rowB | apply c_rowL) | ((with_reducible apply svle_rfl); (focus ((repeat' (first | rfl | (with_reducible first | apply ft11 | apply ft12 | apply f_optN | apply f_optS | apply f_some | apply f_tup | apply f_agg | apply f_ptr | apply f_fn | apply dv_slice | apply sv_d | apply f_cons | apply fold_nil | apply fold_cons | apply fold_app | apply f_rowI | apply f_rowY | apply f_rowS | apply f_rowB | apply f_rowL) | (with_reducible apply f_byte; decide))); done))))); done)); (focus (intro _; rfl)))); (apply imp_stT; (repeat' (first | with_reducible exact keepT_nil | with_reducible exact keepC_nil | with_reducible apply keepT_cons | with_reducible apply keepC_cons | ((with_reducible apply svle_eq); (focus (first | (simp only [push_cast, seval]; rfl) | rfl)); (focus ((repeat' (first | rfl | (with_reducible first | apply ft11 | apply ft12 | apply f_optN | apply f_optS | apply f_some | apply f_tup | apply f_agg | apply f_ptr | apply f_fn | apply dv_slice | apply sv_d | apply f_cons | apply fold_nil | apply fold_cons | apply fold_app | apply f_rowI | apply f_rowY | apply f_rowS | apply f_rowB | apply f_rowL) | (with_reducible apply f_byte; decide))); done))) | ((with_reducible apply svle_td); (focus (first | (simp only [push_cast, seval]; rfl) | rfl)); (focus (first | (simp only [push_cast, seval]; rfl) | rfl)); (focus ((repeat' (first | rfl | (with_reducible first | apply ft11 | apply ft12 | apply f_optN | apply f_optS | apply f_some | apply f_tup | apply f_agg | apply f_ptr | apply f_fn | apply dv_slice | apply sv_d | apply f_cons | apply fold_nil | apply fold_cons | apply fold_app | apply f_rowI | apply f_rowY | apply f_rowS | apply f_rowB | apply f_rowL) | (with_reducible apply f_byte; decide))); done))) | ((with_reducible apply chle_eq); (focus (first | (simp only [push_cast, seval]; rfl) | rfl)); (first | with_reducible exact chle_rfl rfl | with_reducible exact chle_map0 | with_reducible apply chle_vec | with_reducible apply chle_box)) | (with_reducible first | apply ct11 | apply ct12 | apply r_shS | apply r_shI | apply r_rflO | apply r_oneO | apply r_appO | apply r_nilO | apply c_ownN | apply c_ownL | apply vc_rfl | apply vc_nil | apply vc_cons | apply r_rfl | apply r_rows | apply r_nil | apply r_app | apply r_cons | apply c_rowI | apply c_rowY | apply c_rowS | apply c_rowB | apply c_rowL))); done)))) | ((apply K_next (s' := (_, _, _, _)) hm); (focus (first | (dsimp only; done) | (dsimp only; rfl) | rfl)); (focus (apply Imp.trans; (focus (apply imp_closeR (id := 11) (id' := 46); (focus decide); (focus (simp only [push_cast, seval, -List.reduceReplicate]; rfl)); (focus rfl); (focus (simp only [push_cast, seval, -List.reduceReplicate]; rfl)); (focus ((repeat' (first | (with_reducible first | apply ct11 | apply ct12 | apply r_shS | apply r_shI | apply r_rflO | apply r_oneO | apply r_appO | apply r_nilO | apply c_ownN | apply c_ownL | apply vc_rfl | apply vc_nil | apply vc_cons | apply r_rfl | apply r_rows | apply r_nil | apply r_app | apply r_cons | apply c_rowI | apply c_rowY | apply c_rowS | apply c_rowB | apply c_rowL) | ((with_reducible apply svle_rfl); (focus ((repeat' (first | rfl | (with_reducible first | apply ft11 | apply ft12 | apply f_optN | apply f_optS | apply f_some | apply f_tup | apply f_agg | apply f_ptr | apply f_fn | apply dv_slice | apply sv_d | apply f_cons | apply fold_nil | apply fold_cons | apply fold_app | apply f_rowI | apply f_rowY | apply f_rowS | apply f_rowB | apply f_rowL) | (with_reducible apply f_byte; decide))); done))))); done)); (focus (intro _; rfl)))); (apply imp_stT; (repeat' (first | with_reducible exact keepT_nil | with_reducible exact keepC_nil | with_reducible apply keepT_cons | with_reducible apply keepC_cons | ((with_reducible apply svle_eq); (focus (first | (simp only [push_cast, seval]; rfl) | rfl)); (focus ((repeat' (first | rfl | (with_reducible first | apply ft11 | apply ft12 | apply f_optN | apply f_optS | apply f_some | apply f_tup | apply f_agg | apply f_ptr | apply f_fn | apply dv_slice | apply sv_d | apply f_cons | apply fold_nil | apply fold_cons | apply fold_app | apply f_rowI | apply f_rowY | apply f_rowS | apply f_rowB | apply f_rowL) | (with_reducible apply f_byte; decide))); done))) | ((with_reducible apply svle_td); (focus (first | (simp only [push_cast, seval]; rfl) | rfl)); (focus (first | (simp only [push_cast, seval]; rfl) | rfl)); (focus ((repeat' (first | rfl | (with_reducible first | apply ft11 | apply ft12 | apply f_optN | apply f_optS | apply f_some | apply f_tup | apply f_agg | apply f_ptr | apply f_fn | apply dv_slice | apply sv_d | apply f_cons | apply fold_nil | apply fold_cons | apply fold_app | apply f_rowI | apply f_rowY | apply f_rowS | apply f_rowB | apply f_rowL) | (with_reducible apply f_byte; decide))); done))) | ((with_reducible apply chle_eq); (focus (first | (simp only [push_cast, seval]; rfl) | rfl)); (first | with_reducible exact chle_rfl rfl | with_reducible exact chle_map0 | with_reducible apply chle_vec | with_reducible apply chle_box)) | (with_reducible first | apply ct11 | apply ct12 | apply r_shS | apply r_shI | apply r_rflO | apply r_oneO | apply r_appO | apply r_nilO | apply c_ownN | apply c_ownL | apply vc_rfl | apply vc_nil | apply vc_cons | apply r_rfl | apply r_rows | apply r_nil | apply r_app | apply r_cons | apply c_rowI | apply c_rowY | apply c_rowS | apply c_rowB | apply c_rowL))); done)))) | (((with_reducible apply K_brkN hm); (focus decide); intro r hm)) | (((with_reducible apply K_brkR hm); intro r hm)) | (((with_reducible apply LoopB.of); (focus (first | (dsimp only; done) | (dsimp only; rfl) | rfl)); (focus ((intro _; repeat' (first | with_reducible exact impC_end | with_reducible exact impC_endF | with_reducible refine impC_seq ?_ | with_reducible refine impC_block ?_ | ((with_reducible refine impC_rnd ?_); intro _) | ((with_reducible refine impC_brk ?_); intro _))))); (intro s o hm; first | unfold c184); rotate_left; intro s hm)) | (((apply imp_stT; (repeat' (first | with_reducible exact keepT_nil | with_reducible exact keepC_nil | with_reducible apply keepT_cons | with_reducible apply keepC_cons | ((with_reducible apply svle_eq); (focus (first | (simp only [push_cast, seval]; rfl) | rfl)); (focus ((repeat' (first | rfl | (with_reducible first | apply ft11 | apply ft12 | apply f_optN | apply f_optS | apply f_some | apply f_tup | apply f_agg | apply f_ptr | apply f_fn | apply dv_slice | apply sv_d | apply f_cons | apply fold_nil | apply fold_cons | apply fold_app | apply f_rowI | apply f_rowY | apply f_rowS | apply f_rowB | apply f_rowL) | (with_reducible apply f_byte; decide))); done))) | ((with_reducible apply svle_td); (focus (first | (simp only [push_cast, seval]; rfl) | rfl)); (focus (first | (simp only [push_cast, seval]; rfl) | rfl)); (focus ((repeat' (first | rfl | (with_reducible first | apply ft11 | apply ft12 | apply f_optN | apply f_optS | apply f_some | apply f_tup | apply f_agg | apply f_ptr | apply f_fn | apply dv_slice | apply sv_d | apply f_cons | apply fold_nil | apply fold_cons | apply fold_app | apply f_rowI | apply f_rowY | apply f_rowS | apply f_rowB | apply f_rowL) | (with_reducible apply f_byte; decide))); done))) | ((with_reducible apply chle_eq); (focus (first | (simp only [push_cast, seval]; rfl) | rfl)); (first | with_reducible exact chle_rfl rfl | with_reducible exact chle_map0 | with_reducible apply chle_vec | with_reducible apply chle_box)) | (with_reducible first | apply ct11 | apply ct12 | apply r_shS | apply r_shI | apply r_rflO | apply r_oneO | apply r_appO | apply r_nilO | apply c_ownN | apply c_ownL | apply vc_rfl | apply vc_nil | apply vc_cons | apply r_rfl | apply r_rows | apply r_nil | apply r_app | apply r_cons | apply c_rowI | apply c_rowY | apply c_rowS | apply c_rowB | apply c_rowL))); done))))
noncomputable def m80 (x0 : List T11) : Option ((List T12) × (List Int)) := (w21 x0).1
theorem s76 (x0 : List T11) : ∀ r, m80 x0 = some r → PureSpec Tryz.prog 102 [.slice (List.map r15 x0)] (.tup [.slice (List.map r16 r.1), .slice (List.map rowI r.2)]) := (w21 x0).2
def c187 : SC :=
  (.seq (.reg [.r 2 (.boxI (.t 0)),
     .r 3 (.boxI (.t 1)),
     .r 4 (.mv (.c (.d (.bool false))))])
  (.seq (.reg (.r 5 (.fld 0 (.t 2)) :: .o 6 (.ld1 (.t 5)) :: .r 7 (.fld 0 (.t 3)) :: .o 8 (.ld1 (.t 7)) :: .r 9 (.bin .eql (.t 6) (.t 8)) :: .r 10 (.mv (.t 9)) :: gapp [11, 12, 13, 14, 15] 10 true (.r 11 (.fld 2 (.t 2)) :: .r 12 (.ld1 (.t 11)) :: .r 13 (.fld 2 (.t 3)) :: .r 14 (.ld1 (.t 13)) :: .c 15 (.f 58) [.t 12, .t 14, .f 59] :: []) (.r 16 (.pick (.t 10) (.t 15) (.c (.d (.bool false)))) :: .r 4 (.mv (.t 16)) :: [])))
  .ret))
theorem k83 : fits Tryz.prog 57 Tryz.f57 c187 [.t 4] 2 = true := by kernel_rfl
def c188 : SC :=
  (.seq (.seq (.reg [.r 47 (.mv (.t 8)),
     .r 48 (.mv (.t 6)),
     .r 49 (.len (.t 48)),
     .r 50 (.bin .lss (.t 47) (.t 49))])
  (.cond (.t 50)
    .skip
    (.exit 2)))
  (.seq (.block 3 (.seq (.regD [.r 53 (.mv (.t 6)),
       .r 54 (.mv (.t 8)),
       .r 55 (.idx 1 (.t 53) (.t 54)),
       .r 56 (.ld1 (.t 55)),
       .r 57 (.mv (.t 7)),
       .r 58 (.mv (.t 8)),
       .r 59 (.idx 1 (.t 57) (.t 58)),
       .r 60 (.ld1 (.t 59)),
       .c 61 (.f 86) [.t 56, .t 60],
       .r 62 (.not (.t 61))])
    (.cond (.t 62)
      (.seq (.reg [.r 4 (.mv (.c (.d (.bool false))))])
      .ret)
      .skip)))
  (.reg [.r 51 (.mv (.t 8)),
     .r 52 (.bin .add (.t 51) (.c (.d (.int .i64 1)))),
     .r 8 (.mv (.t 52))])))
def c189 : SC := .block 2 (.loop c188)
def c190 : SC :=
  (.seq (.seq (.reg [.r 23 (.mv (.t 5)),
     .r 24 (.fld 1 (.t 2)),
     .o 25 (.ld1 (.t 24)),
     .r 26 (.len (.t 25)),
     .r 27 (.bin .lss (.t 23) (.t 26))])
  (.cond (.t 27)
    .skip
    (.exit 0)))
  (.seq (.block 1 (.seq (.regD [.r 30 (.fld 1 (.t 2)),
       .r 31 (.ld1 (.t 30)),
       .r 32 (.mv (.t 5)),
       .r 33 (.idx 1 (.t 31) (.t 32)),
       .r 34 (.fld 0 (.t 33)),
       .r 35 (.ld1 (.t 34)),
       .r 36 (.fld 1 (.t 3)),
       .r 37 (.ld1 (.t 36)),
       .r 38 (.mv (.t 5)),
       .r 39 (.idx 1 (.t 37) (.t 38)),
       .r 40 (.fld 0 (.t 39)),
       .r 41 (.ld1 (.t 40)),
       .r 6 (.mv (.t 35)),
       .r 7 (.mv (.t 41))])
    (.seq (.seq (.reg [.r 42 (.mv (.t 6)),
       .r 43 (.len (.t 42)),
       .r 44 (.mv (.t 7)),
       .r 45 (.len (.t 44)),
       .r 46 (.bin .neq (.t 43) (.t 45))])
    (.cond (.t 46)
      (.seq (.reg [.r 4 (.mv (.c (.d (.bool false))))])
      .ret)
      .skip))
    (.seq (.reg [.r 8 (.mv (.c (.d (.int .i64 0))))])
    c189))))
  (.reg [.r 28 (.mv (.t 5)),
     .r 29 (.bin .add (.t 28) (.c (.d (.int .i64 1)))),
     .r 5 (.mv (.t 29))])))
def c191 : SC := .block 0 (.loop c190)
def c192 : SC :=
  (.seq (.reg [.r 2 (.boxI (.t 0)),
     .r 3 (.boxI (.t 1)),
     .r 4 (.mv (.c (.d (.bool false))))])
  (.seq (.seq (.reg (.r 9 (.fld 0 (.t 2)) :: .o 10 (.ld1 (.t 9)) :: .r 11 (.fld 0 (.t 3)) :: .o 12 (.ld1 (.t 11)) :: .r 13 (.bin .neq (.t 10) (.t 12)) :: .r 14 (.mv (.t 13)) :: gapp [15, 16, 17, 18, 19, 20, 21] 14 false (.r 15 (.fld 1 (.t 2)) :: .r 16 (.ld1 (.t 15)) :: .r 17 (.len (.t 16)) :: .r 18 (.fld 1 (.t 3)) :: .r 19 (.ld1 (.t 18)) :: .r 20 (.len (.t 19)) :: .r 21 (.bin .neq (.t 17) (.t 20)) :: []) (.r 22 (.pick (.t 14) (.c (.d (.bool true))) (.t 21)) :: [])))
  (.cond (.t 22)
    (.seq (.reg [.r 4 (.mv (.c (.d (.bool false))))])
    .ret)
    .skip))
  (.seq (.seq (.reg [.r 5 (.mv (.c (.d (.int .i64 0))))])
  c191)
  (.seq (.reg [.r 4 (.mv (.c (.d (.bool true))))])
  .ret))))
theorem k84 : fits Tryz.prog 46 Tryz.f46 c192 [.t 4] 2 = true := by kernel_rfl
def c193 : SC :=
  (.seq (.reg [.r 2 (.mv (.c (.d (.bool false))))])
  (.seq (.reg [.r 3 (.mv (.t 0)),
     .c 4 (.f 40) [.t 3, .c (.d (.int .i64 0)), .c (.d (.int .i64 1000000000000000))],
     .r 5 (.not (.t 4)),
     .r 2 (.mv (.t 5))])
  .ret))
theorem k85 : fits Tryz.prog 66 Tryz.f66 c193 [.t 2] 1 = true := by kernel_rfl
def c194 : SC :=
  (.seq (.seq (.reg (.r 8 (.mv (.t 5)) :: .r 9 (.mv (.t 0)) :: .r 10 (.len (.t 9)) :: .r 11 (.bin .lss (.t 8) (.t 10)) :: .r 12 (.mv (.t 11)) :: gapp [13, 14, 15, 16, 17, 18, 19] 12 true (.r 13 (.mv (.t 0)) :: .r 14 (.mv (.t 5)) :: .r 15 (.idx 5 (.t 13) (.t 14)) :: .r 16 (.fld 1 (.t 15)) :: .r 17 (.ld1 (.t 16)) :: .r 18 (.mv (.t 1)) :: .r 19 (.bin .leq (.t 17) (.t 18)) :: []) (.r 20 (.pick (.t 12) (.t 19) (.c (.d (.bool false)))) :: [])))
  (.cond (.t 20)
    .skip
    (.exit 0)))
  (.block 1 (.reg [.r 21 (.mv (.t 5)),
       .r 22 (.bin .add (.t 21) (.c (.d (.int .i64 1)))),
       .r 5 (.mv (.t 22))])))
def c195 : SC := .block 0 (.loop c194)
def c196 : SC :=
  (.seq (.reg [.r 4 (.mv (.c (.nils)))])
  (.seq (.reg [.r 5 (.mv (.c (.d (.int .i64 0))))])
  (.seq c195
  (.seq (.reg [.r 24 (.mv (.t 0)),
     .r 25 (.mv (.t 5)),
     .r 26 (.slc 5 (.t 24) none (some (.t 25))),
     .c 27 (.f 102) [.t 26],
     .r 23 (.mv (.t 27)),
     .r 28 (.ext (.t 23) 0),
     .r 29 (.ext (.t 23) 1),
     .r 6 (.mv (.t 28)),
     .r 7 (.mv (.t 29))])
  (.seq (.reg [.r 30 (.mv (.t 6)),
     .r 4 (.mv (.t 30))])
  .ret)))))
theorem k86 : fits Tryz.prog 67 Tryz.f67 c196 [.t 4] 2 = true := by kernel_rfl
set_option maxRecDepth 100000 in
set_option maxHeartbeats 40000000 in
noncomputable def w22 : (∀ (x0 : T4) (x1 : T9), {m : Option (Bool) // ∀ r, m = some r → PureSpec Tryz.prog 57 [.agg (r8 x0), .agg (r13 x1)] (.bool r)}) × (∀ (x0 : T2) (x1 : T2), {m : Option (Bool) // ∀ r, m = some r → PureSpec Tryz.prog 46 [.agg (r6 x0), .agg (r6 x1)] (.bool r)}) × (∀ (x0 : Int), {m : Option (Bool) // ∀ r, m = some r → PureSpec Tryz.prog 66 [.int .i64 x0] (.bool r)}) × (∀ (x0 : List T11) (x1 : Int), {m : Option ((List T12)) // ∀ r, m = some r → PureSpec Tryz.prog 67 [.slice (List.map r15 x0), .int .i64 x1] (.slice (List.map r16 r))}) := by
  refine ⟨?g0, ?g1, ?g2, ?g3⟩
  case' g0 => (intro x0 x1; apply Subtype.mk; intro r hm; apply pure_walk Tryz.func57 k83; unfold c187)
  case' g1 => (intro x0 x1; apply Subtype.mk; intro r hm; apply pure_walk Tryz.func46 k84; unfold c192)
  case' g2 => (intro x0; apply Subtype.mk; intro r hm; apply pure_walk Tryz.func66 k85; unfold c193)
  case' g3 => (intro x0 x1; apply Subtype.mk; intro r hm; apply pure_walk Tryz.func67 k86; unfold c196)
  all_goals (repeat' (first | with_reducible refine W_seq ?_ | with_reducible refine W_reg ?_ | with_reducible refine W_regD ?_ | with_reducible refine W_block ?_ | with_reducible refine W_skip ?_ | with_reducible refine W_ret ?_ | with_reducible refine W_exit ?_ | with_reducible refine O_nil ?_ | with_reducible refine K_seq ?_ | with_reducible refine K_seqE ?_ | with_reducible refine K_seqR ?_ | with_reducible refine K_block ?_ | with_reducible refine K_blockR ?_ | with_reducible refine K_blockE ?_ | ((with_reducible apply K_blockN); decide) | with_reducible refine O_o2r ?_ | ((with_reducible apply O_idxr hm); (iterate 2 (simp only [push_cast, seval]; rfl)); (intro _; rfl); intro e hm) | ((with_reducible apply O_idxVr hm); (iterate 3 (simp only [push_cast, seval]; rfl)); intro e hm) | ((with_reducible apply O_slcr hm); (iterate 3 (simp only [push_cast, seval]; rfl)); (intro _; rfl); intro e hm) | ((with_reducible apply O_r); (simp only [push_cast, seval]; rfl); (first | exact trivial | omega)) | ((with_reducible apply O_ldV1r hm); (iterate 2 (simp only [push_cast, seval]; rfl)); (intro _; rfl); intro e hm) | ((with_reducible apply O_strr hm); (iterate 2 (simp only [push_cast, seval]; rfl)); intro hm) | ((with_reducible apply O_and hm); (simp only [push_cast, seval]; rfl); rfl; intro v hm; rotate_left; intro v g hm) | ((with_reducible apply O_or hm); (simp only [push_cast, seval]; rfl); rfl; intro v hm; rotate_left; intro v g hm) | ((with_reducible apply W_condT); (focus (simp only [push_cast, seval]; done))) | ((with_reducible apply W_condF); (focus (simp only [push_cast, seval]; done))) | ((with_reducible apply O_cF hm); (simp only [push_cast, seval]; rfl); (first | apply s71 _ _ _ _ _ (fun a0 a1 r h => s72 a0 a1 r h) | apply s72 _ _ | apply s74 _ _ | apply s17 _ _ _ | apply s76 _); (any_goals ((repeat' (first | rfl | (with_reducible first | apply ft1 | apply ft7 | apply ft4 | apply ft9 | apply ft3 | apply ft8 | apply ft2 | apply ft6 | apply ft11 | apply ft12 | apply f_optN | apply f_optS | apply f_some | apply f_tup | apply f_agg | apply f_ptr | apply f_fn | apply dv_slice | apply sv_d | apply f_cons | apply fold_nil | apply fold_cons | apply fold_app | apply f_rowI | apply f_rowY | apply f_rowS | apply f_rowB | apply f_rowL) | (with_reducible apply f_byte; decide))); done)); intro x hm) | ((with_reducible apply S_condB hm); (simp only [push_cast, seval]; rfl); intro hm; rotate_left; intro hm) | ((with_reducible apply K_endS hm); (focus (simp only [resOf, resL, RV.get, push_cast, seval]; rfl)); (focus ((repeat' (first | rfl | (with_reducible first | apply ft1 | apply ft7 | apply ft4 | apply ft9 | apply ft3 | apply ft8 | apply ft2 | apply ft6 | apply ft11 | apply ft12 | apply f_optN | apply f_optS | apply f_some | apply f_tup | apply f_agg | apply f_ptr | apply f_fn | apply dv_slice | apply sv_d | apply f_cons | apply fold_nil | apply fold_cons | apply fold_app | apply f_rowI | apply f_rowY | apply f_rowS | apply f_rowB | apply f_rowL) | (with_reducible apply f_byte; decide))); done))) | ((with_reducible apply K_bool hm); (simp only [push_cast, seval]; rfl)) | ((with_reducible apply K_leave hm); intro r hm) | ((with_reducible apply K_leaveR hm); intro r hm) | ((apply S_loopY (b := 2) (X := c189) (x := c188) rfl (fun (c : SV × SV × SV × SV × SV) (s : Int) => st [(2, c.1), (3, c.2.1), (5, c.2.2.1), (6, c.2.2.2.1), (7, c.2.2.2.2), (8, .d (.int .i64 s))] []) (c := (_, _, _, _, _)) (s0 := _) hm); (focus (first | (dsimp only; done) | (dsimp only; rfl) | rfl)); (with_reducible refine Then.mk ?_ ?_)) | ((apply S_loopY (b := 0) (X := c191) (x := c190) rfl (fun (c : SV × SV) (s : Int) => st [(2, c.1), (3, c.2), (5, .d (.int .i64 s))] []) (c := (_, _)) (s0 := _) hm); (focus (first | (dsimp only; done) | (dsimp only; rfl) | rfl)); (with_reducible refine Then.mk ?_ ?_)) | ((apply S_loopY (b := 0) (X := c195) (x := c194) rfl (fun (c : SV × SV) (s : Int) => st [(0, c.1), (1, c.2), (5, .d (.int .i64 s))] []) (c := (_, _)) (s0 := _) hm); (focus (first | (dsimp only; done) | (dsimp only; rfl) | rfl)); (with_reducible refine Then.mk ?_ ?_)) | ((apply K_next (s' := _) hm); (focus (first | (dsimp only; done) | (dsimp only; rfl) | rfl))) | ((apply K_brk (s' := _) hm); (focus (first | (dsimp only; done) | (dsimp only; rfl) | rfl))) | (((with_reducible apply K_brkN hm); (focus decide); intro r hm)) | (((with_reducible apply K_brkR hm); intro r hm)) | (((with_reducible apply LoopB.of); (focus (first | (dsimp only; done) | (dsimp only; rfl) | rfl)); (focus ((intro _; repeat' (first | with_reducible exact impC_end | with_reducible exact impC_endF | with_reducible refine impC_seq ?_ | with_reducible refine impC_block ?_ | ((with_reducible refine impC_rnd ?_); intro _) | ((with_reducible refine impC_brk ?_); intro _))))); (intro s o hm; first | unfold c188 | unfold c190 | unfold c194); rotate_left; intro s hm)) | (((apply imp_stT; (repeat' (first | with_reducible exact keepT_nil | with_reducible exact keepC_nil | with_reducible apply keepT_cons | with_reducible apply keepC_cons | ((with_reducible apply svle_eq); (focus (first | (simp only [push_cast, seval]; rfl) | rfl)); (focus ((repeat' (first | rfl | (with_reducible first | apply ft1 | apply ft7 | apply ft4 | apply ft9 | apply ft3 | apply ft8 | apply ft2 | apply ft6 | apply ft11 | apply ft12 | apply f_optN | apply f_optS | apply f_some | apply f_tup | apply f_agg | apply f_ptr | apply f_fn | apply dv_slice | apply sv_d | apply f_cons | apply fold_nil | apply fold_cons | apply fold_app | apply f_rowI | apply f_rowY | apply f_rowS | apply f_rowB | apply f_rowL) | (with_reducible apply f_byte; decide))); done))) | ((with_reducible apply svle_td); (focus (first | (simp only [push_cast, seval]; rfl) | rfl)); (focus (first | (simp only [push_cast, seval]; rfl) | rfl)); (focus ((repeat' (first | rfl | (with_reducible first | apply ft1 | apply ft7 | apply ft4 | apply ft9 | apply ft3 | apply ft8 | apply ft2 | apply ft6 | apply ft11 | apply ft12 | apply f_optN | apply f_optS | apply f_some | apply f_tup | apply f_agg | apply f_ptr | apply f_fn | apply dv_slice | apply sv_d | apply f_cons | apply fold_nil | apply fold_cons | apply fold_app | apply f_rowI | apply f_rowY | apply f_rowS | apply f_rowB | apply f_rowL) | (with_reducible apply f_byte; decide))); done))) | ((with_reducible apply chle_eq); (focus (first | (simp only [push_cast, seval]; rfl) | rfl)); (first | with_reducible exact chle_rfl rfl | with_reducible exact chle_map0 | with_reducible apply chle_vec | with_reducible apply chle_box)) | (with_reducible first | apply ct1 | apply ct7 | apply ct4 | apply ct9 | apply ct3 | apply ct8 | apply ct2 | apply ct6 | apply ct11 | apply ct12 | apply bct1 | apply r_shS | apply r_shI | apply r_rflO | apply r_oneO | apply r_appO | apply r_nilO | apply c_ownN | apply c_ownL | apply vc_rfl | apply vc_nil | apply vc_cons | apply r_rfl | apply r_rows | apply r_nil | apply r_app | apply r_cons | apply c_rowI | apply c_rowY | apply c_rowS | apply c_rowB | apply c_rowL))); done)))))
noncomputable def m81 (x0 : T4) (x1 : T9) : Option (Bool) := (w22.1 x0 x1).1
theorem s77 (x0 : T4) (x1 : T9) : ∀ r, m81 x0 x1 = some r → PureSpec Tryz.prog 57 [.agg (r8 x0), .agg (r13 x1)] (.bool r) := (w22.1 x0 x1).2
noncomputable def m82 (x0 : T2) (x1 : T2) : Option (Bool) := (w22.2.1 x0 x1).1
theorem s78 (x0 : T2) (x1 : T2) : ∀ r, m82 x0 x1 = some r → PureSpec Tryz.prog 46 [.agg (r6 x0), .agg (r6 x1)] (.bool r) := (w22.2.1 x0 x1).2
noncomputable def m83 (x0 : Int) : Option (Bool) := (w22.2.2.1 x0).1
theorem s79 (x0 : Int) : ∀ r, m83 x0 = some r → PureSpec Tryz.prog 66 [.int .i64 x0] (.bool r) := (w22.2.2.1 x0).2
noncomputable def m84 (x0 : List T11) (x1 : Int) : Option ((List T12)) := (w22.2.2.2 x0 x1).1
theorem s80 (x0 : List T11) (x1 : Int) : ∀ r, m84 x0 x1 = some r → PureSpec Tryz.prog 67 [.slice (List.map r15 x0), .int .i64 x1] (.slice (List.map r16 r)) := (w22.2.2.2 x0 x1).2
def c197 : SC :=
  (.seq (.seq (.reg [.r 51 (.mv (.t 11)),
     .r 52 (.fld 6 (.t 2)),
     .o 53 (.ld1 (.t 52)),
     .r 54 (.mv (.t 9)),
     .r 55 (.idx 3 (.t 53) (.t 54)),
     .r 56 (.fld 2 (.t 55)),
     .o 57 (.ld1 (.t 56)),
     .r 58 (.len (.t 57)),
     .r 59 (.bin .lss (.t 51) (.t 58))])
  (.cond (.t 59)
    .skip
    (.exit 2)))
  (.seq (.block 3 (.seq (.reg [.r 62 (.fld 2 (.t 3)),
       .o 63 (.ld1 (.t 62)),
       .r 64 (.mv (.t 9)),
       .r 65 (.idx 3 (.t 63) (.t 64)),
       .r 66 (.fld 2 (.t 65)),
       .o 67 (.ld1 (.t 66)),
       .r 68 (.mv (.t 11)),
       .r 69 (.idx 5 (.t 67) (.t 68)),
       .r 70 (.fld 1 (.t 69)),
       .o 71 (.ld1 (.t 70)),
       .r 72 (.bin .neq (.t 71) (.c (.d (.int .i64 3))))])
    (.cond (.t 72)
      (.regE [.r 73 (.fld 2 (.t 10)),
         .r 74 (.ld1 (.t 73)),
         .r 75 (.fld 6 (.t 2)),
         .r 76 (.ld1 (.t 75)),
         .r 77 (.mv (.t 9)),
         .r 78 (.idx 3 (.t 76) (.t 77)),
         .r 79 (.fld 2 (.t 78)),
         .r 80 (.ld1 (.t 79)),
         .r 81 (.mv (.t 11)),
         .r 82 (.idx 4 (.t 80) (.t 81)),
         .r 83 (.ldA 4 (.t 82)),
         .r 84 (.bslice 4 [.t 83]),
         .x 85 (.app 56 4 (.t 74) (.t 84)) [],
         .r 86 (.fld 2 (.t 10)),
         .x 0 (.st 1 (.t 86) (.t 85)) []])
      .skip)))
  (.reg [.r 60 (.mv (.t 11)),
     .r 61 (.bin .add (.t 60) (.c (.d (.int .i64 1)))),
     .r 11 (.mv (.t 61))])))
def c198 : SC := .block 2 (.loop c197)
def c199 : SC := (.reg [.r 101 (.fld 6 (.t 8)),
         .o 102 (.ld1 (.t 101)),
         .o 103 (.ldA 3 (.t 10)),
         .r 104 (.bslice 3 [.t 103]),
         .w 105 (.app 54 3 (.t 102) (.t 104)),
         .r 106 (.fld 6 (.t 8)),
         .w 0 (.st 1 (.t 106) (.t 105))])
def c200 : SC :=
  (.seq (.seq (.reg [.r 31 (.mv (.t 9)),
     .r 32 (.fld 6 (.t 2)),
     .o 33 (.ld1 (.t 32)),
     .r 34 (.len (.t 33)),
     .r 35 (.bin .lss (.t 31) (.t 34))])
  (.cond (.t 35)
    .skip
    (.exit 0)))
  (.seq (.block 1 (.seq (.regE [.r 38 (.fld 6 (.t 2)),
       .r 39 (.ld1 (.t 38)),
       .r 40 (.mv (.t 9)),
       .r 41 (.idx 3 (.t 39) (.t 40)),
       .r 42 (.fld 0 (.t 41)),
       .r 43 (.ld1 (.t 42)),
       .r 44 (.fld 6 (.t 2)),
       .r 45 (.ld1 (.t 44)),
       .r 46 (.mv (.t 9)),
       .r 47 (.idx 3 (.t 45) (.t 46)),
       .r 48 (.fld 1 (.t 47)),
       .r 49 (.ld1 (.t 48)),
       .r 50 (.build [.d (.str []), .d (.str []), .nils] [(0, 1, .t 43), (1, 1, .t 49)]),
       .x 10 (.boxM (.c (.agg [.d (.str []), .d (.str []), .nils]))) [(0, 38, .fld 6 (.t 2)), (1, 39, .ld1 (.t 38)), (2, 40, .mv (.t 9)), (3, 41, .idx 3 (.t 39) (.t 40)), (4, 42, .fld 0 (.t 41)), (5, 43, .ld1 (.t 42)), (6, 44, .fld 6 (.t 2)), (7, 45, .ld1 (.t 44)), (8, 46, .mv (.t 9)), (9, 47, .idx 3 (.t 45) (.t 46)), (10, 48, .fld 1 (.t 47)), (11, 49, .ld1 (.t 48)), (12, 50, .build [.d (.str []), .d (.str []), .nils] [(0, 1, .t 43), (1, 1, .t 49)])],
       .x 0 (.st 3 (.t 10) (.t 50)) []])
    (.seq (.seq (.reg [.r 11 (.mv (.c (.d (.int .i64 0))))])
    c198)
    (.seq (.reg (.r 87 (.fld 2 (.t 10)) :: .o 88 (.ld1 (.t 87)) :: .r 89 (.len (.t 88)) :: .r 90 (.bin .gtr (.t 89) (.c (.d (.int .i64 0)))) :: .r 91 (.mv (.t 90)) :: gapp [92, 93, 94, 95, 96, 97, 98, 99] 91 false (.r 92 (.fld 6 (.t 2)) :: .r 93 (.ld1 (.t 92)) :: .r 94 (.mv (.t 9)) :: .r 95 (.idx 3 (.t 93) (.t 94)) :: .r 96 (.fld 2 (.t 95)) :: .r 97 (.ld1 (.t 96)) :: .r 98 (.len (.t 97)) :: .r 99 (.bin .eql (.t 98) (.c (.d (.int .i64 0)))) :: []) (.r 100 (.pick (.t 91) (.c (.d (.bool true))) (.t 99)) :: [])))
    (.cond (.t 100)
      c199
      .skip)))))
  (.reg [.r 36 (.mv (.t 9)),
     .r 37 (.bin .add (.t 36) (.c (.d (.int .i64 1)))),
     .r 9 (.mv (.t 37))])))
def c201 : SC := .block 0 (.loop c200)
def c202 : SC := (.reg [.o 107 (.ldA 7 (.t 8)),
     .w 0 (.st 7 (.t 4) (.t 107)),
     .r 5 (.mv (.c (.d (.int .i64 0))))])
def c203 : SC :=
  (.seq (.reg [.r 2 (.boxI (.t 0)),
     .r 3 (.boxI (.t 1)),
     .w 4 (.boxM (.c (.agg [.d (.str []), .d (.str []), .d (.str []), .d (.int .i64 0), .d (.int .i64 0), .d (.bool false), .nils]))),
     .r 5 (.mv (.c (.d (.int .i64 0))))])
  (.seq (.seq (.reg [.o 12 (.ldA 7 (.t 2)),
     .c 13 (.f 15) [.t 12],
     .r 6 (.mv (.t 13))])
  (.seq (.reg [.r 14 (.mv (.t 6)),
     .r 15 (.bin .neq (.t 14) (.c (.d (.int .i64 0))))])
  (.cond (.t 15)
    (.seq (.reg [.r 16 (.build [.d (.str []), .d (.str []), .d (.str []), .d (.int .i64 0), .d (.int .i64 0), .d (.bool false), .nils] []),
       .r 17 (.mv (.t 6)),
       .w 0 (.st 7 (.t 4) (.t 16)),
       .r 5 (.mv (.t 17))])
    .ret)
    .skip)))
  (.seq (.seq (.reg [.o 18 (.ldA 3 (.t 3)),
     .c 19 (.f 26) [.t 18],
     .r 7 (.mv (.t 19))])
  (.seq (.reg [.r 20 (.mv (.t 7)),
     .r 21 (.bin .neq (.t 20) (.c (.d (.int .i64 0))))])
  (.cond (.t 21)
    (.seq (.reg [.r 22 (.build [.d (.str []), .d (.str []), .d (.str []), .d (.int .i64 0), .d (.int .i64 0), .d (.bool false), .nils] []),
       .r 23 (.mv (.t 7)),
       .w 0 (.st 7 (.t 4) (.t 22)),
       .r 5 (.mv (.t 23))])
    .ret)
    .skip)))
  (.seq (.seq (.reg [.o 24 (.ldA 7 (.t 2)),
     .o 25 (.ldA 3 (.t 3)),
     .c 26 (.f 27) [.t 24, .t 25],
     .r 27 (.not (.t 26))])
  (.cond (.t 27)
    (.seq (.reg [.r 28 (.build [.d (.str []), .d (.str []), .d (.str []), .d (.int .i64 0), .d (.int .i64 0), .d (.bool false), .nils] []),
       .w 0 (.st 7 (.t 4) (.t 28)),
       .r 5 (.mv (.c (.d (.int .i64 12))))])
    .ret)
    .skip))
  (.seq (.reg [.o 29 (.ldA 7 (.t 2)),
     .w 8 (.boxM (.c (.agg [.d (.str []), .d (.str []), .d (.str []), .d (.int .i64 0), .d (.int .i64 0), .d (.bool false), .nils]))),
     .w 0 (.st 7 (.t 8) (.t 29))])
  (.seq (.reg [.r 30 (.fld 6 (.t 8)),
     .w 0 (.st 1 (.t 30) (.c (.nils)))])
  (.seq (.seq (.reg [.r 9 (.mv (.c (.d (.int .i64 0))))])
  c201)
  (.seq c202
  .ret))))))))
theorem k87 : fits Tryz.prog 7 Tryz.f7 c203 [.cell 4 7, .t 5] 2 = true := by kernel_rfl
set_option maxRecDepth 100000 in
set_option maxHeartbeats 40000000 in
noncomputable def w23 : (∀ (x0 : T5) (x1 : T10), {m : Option (T5 × Int) // ∀ r, m = some r → PureSpec Tryz.prog 7 [.agg (r9 x0), .agg (r14 x1)] (.tup [.agg (r9 r.1), .int .i64 r.2])}) := by
  (intro x0 x1; apply Subtype.mk; intro r hm; apply pure_walk Tryz.func7 k87; unfold c203)
  repeat' (first | ((with_reducible apply W_openBs (id := 8) (cid := 1262) (off := 6) (n := 3) (e := 54)); (focus (simp only [push_cast, seval]; (try rfl); done)); (focus (simp only [push_cast, seval]; (try rfl); done)); (focus decide); (focus rfl); (focus (intro _; rfl)); (focus (simp only [push_cast, seval]; (try rfl); done))) | ((with_reducible apply W_nilB (id := 8) (cid := 1262) (off := 6) (n := 3) (e := 54)); (focus (simp only [push_cast, seval]; (try rfl); done)); (focus (simp only [push_cast, seval]; (try rfl); done)); (focus decide); (focus (simp only [push_cast, seval]; (try rfl); done))) | ((with_reducible apply W_openBs (id := 10) (cid := 1322) (off := 2) (n := 4) (e := 56)); (focus (simp only [push_cast, seval]; (try rfl); done)); (focus (simp only [push_cast, seval]; (try rfl); done)); (focus decide); (focus rfl); (focus (intro _; rfl)); (focus (simp only [push_cast, seval]; (try rfl); done))) | ((with_reducible apply W_nilB (id := 10) (cid := 1322) (off := 2) (n := 4) (e := 56)); (focus (simp only [push_cast, seval]; (try rfl); done)); (focus (simp only [push_cast, seval]; (try rfl); done)); (focus decide); (focus (simp only [push_cast, seval]; (try rfl); done))) | ((with_reducible apply W_moveBO (id := 8) (c := 8) (cid := 1262) (off := 6) (n := 3) (e := 54) (ms := [.sh, .sh, .sh])); (focus (simp only [push_cast, seval]; (try rfl); done)); (focus (simp only [push_cast, seval]; (try rfl); done)); (focus decide); (focus decide); (focus (simp only [push_cast, seval]; (try rfl); done)); (focus ((repeat' (first | (with_reducible first | apply ct1 | apply ct7 | apply ct4 | apply ct9 | apply ct5 | apply ct3 | apply ct8 | apply ct10 | apply ct2 | apply ct6 | apply bct1 | apply bct2 | apply r_shS | apply r_shI | apply r_rflO | apply r_oneO | apply r_appO | apply r_nilO | apply c_ownN | apply c_ownL | apply vc_rfl | apply vc_nil | apply vc_cons | apply r_rfl | apply r_rows | apply r_nil | apply r_app | apply r_cons | apply c_rowI | apply c_rowY | apply c_rowS | apply c_rowB | apply c_rowL | apply ot1 | apply ot2) | ((with_reducible apply svle_rfl); (focus ((repeat' (first | rfl | (with_reducible first | apply ft1 | apply ft7 | apply ft4 | apply ft9 | apply ft5 | apply ft3 | apply ft8 | apply ft10 | apply ft2 | apply ft6 | apply f_optN | apply f_optS | apply f_some | apply f_tup | apply f_agg | apply f_ptr | apply f_fn | apply dv_slice | apply sv_d | apply f_cons | apply fold_nil | apply fold_cons | apply fold_app | apply f_rowI | apply f_rowY | apply f_rowS | apply f_rowB | apply f_rowL) | (with_reducible apply f_byte; decide))); done))) | ((with_reducible apply cle_own); (focus rfl); (focus ((repeat' (first | rfl | (with_reducible first | apply ft1 | apply ft7 | apply ft4 | apply ft9 | apply ft5 | apply ft3 | apply ft8 | apply ft10 | apply ft2 | apply ft6 | apply f_optN | apply f_optS | apply f_some | apply f_tup | apply f_agg | apply f_ptr | apply f_fn | apply dv_slice | apply sv_d | apply f_cons | apply fold_nil | apply fold_cons | apply fold_app | apply f_rowI | apply f_rowY | apply f_rowS | apply f_rowB | apply f_rowL) | (with_reducible apply f_byte; decide))); done))) | ((with_reducible apply cle_nil); (focus rfl)))); done)); (focus rfl); (focus (intro _; rfl)); (focus (simp only [push_cast, seval]; (try rfl); done)); (focus (first | decide | (simp only [push_cast, seval]; (try rfl); done))); (focus (simp only [push_cast, seval]; (try rfl); done))) | ((with_reducible apply W_moveBO (id := 8) (c := 105) (cid := 1262) (off := 6) (n := 3) (e := 54) (ms := [.sh, .sh, .sh])); (focus (simp only [push_cast, seval]; (try rfl); done)); (focus (simp only [push_cast, seval]; (try rfl); done)); (focus decide); (focus decide); (focus (simp only [push_cast, seval]; (try rfl); done)); (focus ((repeat' (first | (with_reducible first | apply ct1 | apply ct7 | apply ct4 | apply ct9 | apply ct5 | apply ct3 | apply ct8 | apply ct10 | apply ct2 | apply ct6 | apply bct1 | apply bct2 | apply r_shS | apply r_shI | apply r_rflO | apply r_oneO | apply r_appO | apply r_nilO | apply c_ownN | apply c_ownL | apply vc_rfl | apply vc_nil | apply vc_cons | apply r_rfl | apply r_rows | apply r_nil | apply r_app | apply r_cons | apply c_rowI | apply c_rowY | apply c_rowS | apply c_rowB | apply c_rowL | apply ot1 | apply ot2) | ((with_reducible apply svle_rfl); (focus ((repeat' (first | rfl | (with_reducible first | apply ft1 | apply ft7 | apply ft4 | apply ft9 | apply ft5 | apply ft3 | apply ft8 | apply ft10 | apply ft2 | apply ft6 | apply f_optN | apply f_optS | apply f_some | apply f_tup | apply f_agg | apply f_ptr | apply f_fn | apply dv_slice | apply sv_d | apply f_cons | apply fold_nil | apply fold_cons | apply fold_app | apply f_rowI | apply f_rowY | apply f_rowS | apply f_rowB | apply f_rowL) | (with_reducible apply f_byte; decide))); done))) | ((with_reducible apply cle_own); (focus rfl); (focus ((repeat' (first | rfl | (with_reducible first | apply ft1 | apply ft7 | apply ft4 | apply ft9 | apply ft5 | apply ft3 | apply ft8 | apply ft10 | apply ft2 | apply ft6 | apply f_optN | apply f_optS | apply f_some | apply f_tup | apply f_agg | apply f_ptr | apply f_fn | apply dv_slice | apply sv_d | apply f_cons | apply fold_nil | apply fold_cons | apply fold_app | apply f_rowI | apply f_rowY | apply f_rowS | apply f_rowB | apply f_rowL) | (with_reducible apply f_byte; decide))); done))) | ((with_reducible apply cle_nil); (focus rfl)))); done)); (focus rfl); (focus (intro _; rfl)); (focus (simp only [push_cast, seval]; (try rfl); done)); (focus (first | decide | (simp only [push_cast, seval]; (try rfl); done))); (focus (simp only [push_cast, seval]; (try rfl); done))) | ((with_reducible apply W_moveBO (id := 10) (c := 85) (cid := 1322) (off := 2) (n := 4) (e := 56) (ms := [.sh, .sh, .sh, .sh])); (focus (simp only [push_cast, seval]; (try rfl); done)); (focus (simp only [push_cast, seval]; (try rfl); done)); (focus decide); (focus decide); (focus (simp only [push_cast, seval]; (try rfl); done)); (focus ((repeat' (first | (with_reducible first | apply ct1 | apply ct7 | apply ct4 | apply ct9 | apply ct5 | apply ct3 | apply ct8 | apply ct10 | apply ct2 | apply ct6 | apply bct1 | apply bct2 | apply r_shS | apply r_shI | apply r_rflO | apply r_oneO | apply r_appO | apply r_nilO | apply c_ownN | apply c_ownL | apply vc_rfl | apply vc_nil | apply vc_cons | apply r_rfl | apply r_rows | apply r_nil | apply r_app | apply r_cons | apply c_rowI | apply c_rowY | apply c_rowS | apply c_rowB | apply c_rowL | apply ot1 | apply ot2) | ((with_reducible apply svle_rfl); (focus ((repeat' (first | rfl | (with_reducible first | apply ft1 | apply ft7 | apply ft4 | apply ft9 | apply ft5 | apply ft3 | apply ft8 | apply ft10 | apply ft2 | apply ft6 | apply f_optN | apply f_optS | apply f_some | apply f_tup | apply f_agg | apply f_ptr | apply f_fn | apply dv_slice | apply sv_d | apply f_cons | apply fold_nil | apply fold_cons | apply fold_app | apply f_rowI | apply f_rowY | apply f_rowS | apply f_rowB | apply f_rowL) | (with_reducible apply f_byte; decide))); done))) | ((with_reducible apply cle_own); (focus rfl); (focus ((repeat' (first | rfl | (with_reducible first | apply ft1 | apply ft7 | apply ft4 | apply ft9 | apply ft5 | apply ft3 | apply ft8 | apply ft10 | apply ft2 | apply ft6 | apply f_optN | apply f_optS | apply f_some | apply f_tup | apply f_agg | apply f_ptr | apply f_fn | apply dv_slice | apply sv_d | apply f_cons | apply fold_nil | apply fold_cons | apply fold_app | apply f_rowI | apply f_rowY | apply f_rowS | apply f_rowB | apply f_rowL) | (with_reducible apply f_byte; decide))); done))) | ((with_reducible apply cle_nil); (focus rfl)))); done)); (focus rfl); (focus (intro _; rfl)); (focus (simp only [push_cast, seval]; (try rfl); done)); (focus (first | decide | (simp only [push_cast, seval]; (try rfl); done))); (focus (simp only [push_cast, seval]; (try rfl); done))) | ((apply W_frz (x := c199) (id := 1322)); (focus (simp only [push_cast, seval]; (try rfl); done)); (focus (simp only [push_cast, seval]; (try rfl); done)); unfold c199) | ((apply W_frz (x := c202) (id := 1262)); (focus (simp only [push_cast, seval]; (try rfl); done)); (focus (simp only [push_cast, seval]; (try rfl); done)); unfold c202) | with_reducible refine W_seq ?_ | with_reducible refine W_reg ?_ | with_reducible refine W_regE ?_ | with_reducible refine W_block ?_ | with_reducible refine W_skip ?_ | with_reducible refine W_ret ?_ | with_reducible refine W_exit ?_ | with_reducible refine O_nil ?_ | with_reducible refine K_seq ?_ | with_reducible refine K_seqE ?_ | with_reducible refine K_seqR ?_ | with_reducible refine K_block ?_ | with_reducible refine K_blockR ?_ | with_reducible refine K_blockE ?_ | ((with_reducible apply K_blockN); decide) | with_reducible refine O_o2r ?_ | ((with_reducible apply O_idxrE hm); (iterate 2 (simp only [push_cast, seval]; rfl)); (intro _; rfl); intro e he hm) | ((with_reducible apply O_idxVr hm); (iterate 3 (simp only [push_cast, seval]; rfl)); intro e hm) | ((with_reducible apply O_idxLr hm (row := r7)); (iterate 2 (simp only [push_cast, seval]; rfl)); (focus ((repeat' (first | rfl | (with_reducible first | apply ft1 | apply ft7 | apply ft4 | apply ft9 | apply ft5 | apply ft3 | apply ft8 | apply ft10 | apply ft2 | apply ft6 | apply f_optN | apply f_optS | apply f_some | apply f_tup | apply f_agg | apply f_ptr | apply f_fn | apply dv_slice | apply sv_d | apply f_cons | apply fold_nil | apply fold_cons | apply fold_app | apply f_rowI | apply f_rowY | apply f_rowS | apply f_rowB | apply f_rowL) | (with_reducible apply f_byte; decide))); done)); (simp only [push_cast, seval]; rfl); (intro _; rfl); intro e hm) | ((with_reducible apply O_idxLr hm (row := r8)); (iterate 2 (simp only [push_cast, seval]; rfl)); (focus ((repeat' (first | rfl | (with_reducible first | apply ft1 | apply ft7 | apply ft4 | apply ft9 | apply ft5 | apply ft3 | apply ft8 | apply ft10 | apply ft2 | apply ft6 | apply f_optN | apply f_optS | apply f_some | apply f_tup | apply f_agg | apply f_ptr | apply f_fn | apply dv_slice | apply sv_d | apply f_cons | apply fold_nil | apply fold_cons | apply fold_app | apply f_rowI | apply f_rowY | apply f_rowS | apply f_rowB | apply f_rowL) | (with_reducible apply f_byte; decide))); done)); (simp only [push_cast, seval]; rfl); (intro _; rfl); intro e hm) | ((with_reducible apply O_r); (simp only [push_cast, seval]; rfl); (first | exact trivial | omega)) | ((with_reducible apply O_ldV1r hm); (iterate 2 (simp only [push_cast, seval]; rfl)); (intro _; rfl); intro e hm) | ((with_reducible apply O_ldAVr hm); (iterate 2 (simp only [push_cast, seval]; rfl)); (intro _; rfl); intro e hm) | ((with_reducible apply O_strr hm); (iterate 2 (simp only [push_cast, seval]; rfl)); intro hm) | ((with_reducible apply O_or hm); (simp only [push_cast, seval]; rfl); rfl; intro v hm; rotate_left; intro v g hm) | ((with_reducible apply W_condT); (focus (simp only [push_cast, seval]; done))) | ((with_reducible apply W_condF); (focus (simp only [push_cast, seval]; done))) | ((with_reducible apply O_cF hm); (simp only [push_cast, seval]; rfl); (first | apply s41 _ | apply s68 _ | apply s73 _ _); (any_goals ((repeat' (first | rfl | (with_reducible first | apply ft1 | apply ft7 | apply ft4 | apply ft9 | apply ft5 | apply ft3 | apply ft8 | apply ft10 | apply ft2 | apply ft6 | apply f_optN | apply f_optS | apply f_some | apply f_tup | apply f_agg | apply f_ptr | apply f_fn | apply dv_slice | apply sv_d | apply f_cons | apply fold_nil | apply fold_cons | apply fold_app | apply f_rowI | apply f_rowY | apply f_rowS | apply f_rowB | apply f_rowL) | (with_reducible apply f_byte; decide))); done)); intro x hm) | ((with_reducible apply O_clS hm); (simp only [push_cast, seval]; rfl); (focus (first | exact s41 _ | exact s68 _ | exact s73 _ _)); (intro _; rfl); intro x hm) | ((with_reducible apply O_w); (simp only [push_cast, seval]; rfl); (first | exact trivial | omega)) | ((with_reducible apply O_appL hm (row := r7)); (iterate 5 (simp only [push_cast, seval]; rfl)); (focus ((repeat' (first | rfl | (with_reducible first | apply ft1 | apply ft7 | apply ft4 | apply ft9 | apply ft5 | apply ft3 | apply ft8 | apply ft10 | apply ft2 | apply ft6 | apply f_optN | apply f_optS | apply f_some | apply f_tup | apply f_agg | apply f_ptr | apply f_fn | apply dv_slice | apply sv_d | apply f_cons | apply fold_nil | apply fold_cons | apply fold_app | apply f_rowI | apply f_rowY | apply f_rowS | apply f_rowB | apply f_rowL) | (with_reducible apply f_byte; decide))); done)); (focus ((repeat' (first | rfl | (with_reducible first | apply ft1 | apply ft7 | apply ft4 | apply ft9 | apply ft5 | apply ft3 | apply ft8 | apply ft10 | apply ft2 | apply ft6 | apply f_optN | apply f_optS | apply f_some | apply f_tup | apply f_agg | apply f_ptr | apply f_fn | apply dv_slice | apply sv_d | apply f_cons | apply fold_nil | apply fold_cons | apply fold_app | apply f_rowI | apply f_rowY | apply f_rowS | apply f_rowB | apply f_rowL) | (with_reducible apply f_byte; decide))); done)); rfl; decide; (intro _; rfl); intro hm) | ((with_reducible apply O_appL hm (row := r8)); (iterate 5 (simp only [push_cast, seval]; rfl)); (focus ((repeat' (first | rfl | (with_reducible first | apply ft1 | apply ft7 | apply ft4 | apply ft9 | apply ft5 | apply ft3 | apply ft8 | apply ft10 | apply ft2 | apply ft6 | apply f_optN | apply f_optS | apply f_some | apply f_tup | apply f_agg | apply f_ptr | apply f_fn | apply dv_slice | apply sv_d | apply f_cons | apply fold_nil | apply fold_cons | apply fold_app | apply f_rowI | apply f_rowY | apply f_rowS | apply f_rowB | apply f_rowL) | (with_reducible apply f_byte; decide))); done)); (focus ((repeat' (first | rfl | (with_reducible first | apply ft1 | apply ft7 | apply ft4 | apply ft9 | apply ft5 | apply ft3 | apply ft8 | apply ft10 | apply ft2 | apply ft6 | apply f_optN | apply f_optS | apply f_some | apply f_tup | apply f_agg | apply f_ptr | apply f_fn | apply dv_slice | apply sv_d | apply f_cons | apply fold_nil | apply fold_cons | apply fold_app | apply f_rowI | apply f_rowY | apply f_rowS | apply f_rowB | apply f_rowL) | (with_reducible apply f_byte; decide))); done)); rfl; decide; (intro _; rfl); intro hm) | ((with_reducible apply O_appV hm); (iterate 4 (simp only [push_cast, seval]; rfl)); (focus ((repeat' (first | rfl | (with_reducible first | apply ft1 | apply ft7 | apply ft4 | apply ft9 | apply ft5 | apply ft3 | apply ft8 | apply ft10 | apply ft2 | apply ft6 | apply f_optN | apply f_optS | apply f_some | apply f_tup | apply f_agg | apply f_ptr | apply f_fn | apply dv_slice | apply sv_d | apply f_cons | apply fold_nil | apply fold_cons | apply fold_app | apply f_rowI | apply f_rowY | apply f_rowS | apply f_rowB | apply f_rowL) | (with_reducible apply f_byte; decide))); done)); decide; (intro _; rfl); intro hm) | ((with_reducible apply O_appN hm); (focus (simp only [push_cast, seval]; done)); (iterate 2 (simp only [push_cast, seval]; rfl)); (focus ((repeat' (first | rfl | (with_reducible first | apply ft1 | apply ft7 | apply ft4 | apply ft9 | apply ft5 | apply ft3 | apply ft8 | apply ft10 | apply ft2 | apply ft6 | apply f_optN | apply f_optS | apply f_some | apply f_tup | apply f_agg | apply f_ptr | apply f_fn | apply dv_slice | apply sv_d | apply f_cons | apply fold_nil | apply fold_cons | apply fold_app | apply f_rowI | apply f_rowY | apply f_rowS | apply f_rowB | apply f_rowL) | (with_reducible apply f_byte; decide))); done)); decide; (intro _; rfl); intro hm) | ((with_reducible apply O_stVA hm); (iterate 4 (simp only [push_cast, seval]; rfl)); (focus ((repeat' (first | rfl | (with_reducible first | apply ft1 | apply ft7 | apply ft4 | apply ft9 | apply ft5 | apply ft3 | apply ft8 | apply ft10 | apply ft2 | apply ft6 | apply f_optN | apply f_optS | apply f_some | apply f_tup | apply f_agg | apply f_ptr | apply f_fn | apply dv_slice | apply sv_d | apply f_cons | apply fold_nil | apply fold_cons | apply fold_app | apply f_rowI | apply f_rowY | apply f_rowS | apply f_rowB | apply f_rowL) | (with_reducible apply f_byte; decide))); done)); decide; (intro _; rfl); intro e hm) | ((with_reducible apply O_stV hm); (iterate 3 (simp only [push_cast, seval]; rfl)); rfl; (intro _; rfl); rfl; (focus (intro a; simp only [push_cast, seval]; rfl)); (focus (intro a; (repeat' (first | rfl | with_reducible apply et1 | with_reducible apply eT_Tapi_Flaw | with_reducible apply et4 | with_reducible apply et8 | with_reducible apply et5 | with_reducible apply et3 | with_reducible apply et7 | with_reducible apply et9 | with_reducible apply et2 | with_reducible apply et6)); done)); intro e hm) | ((with_reducible apply O_stVAX hm); (iterate 3 (simp only [push_cast, seval]; rfl)); (focus ((repeat' (first | rfl | (with_reducible first | apply ft1 | apply ft7 | apply ft4 | apply ft9 | apply ft5 | apply ft3 | apply ft8 | apply ft10 | apply ft2 | apply ft6 | apply f_optN | apply f_optS | apply f_some | apply f_tup | apply f_agg | apply f_ptr | apply f_fn | apply dv_slice | apply sv_d | apply f_cons | apply fold_nil | apply fold_cons | apply fold_app | apply f_rowI | apply f_rowY | apply f_rowS | apply f_rowB | apply f_rowL) | (with_reducible apply f_byte; decide))); done)); (intro _; rfl); (focus ((repeat' (first | exact Rer_nil | ((with_reducible apply Rer_idx); (focus (simp only [push_cast, seval]; rfl)); (focus (simp only [push_cast, seval]; rfl)); rotate_left 2; (focus (first | (simp only [push_cast, seval]; rfl) | (simp only [push_cast, seval]; done))); rotate_left; (focus assumption); (focus (intro _; rfl))) | ((with_reducible apply Rer_cons); (focus (simp only [push_cast, seval]; rfl)); (focus (first | exact trivial | omega)); (focus (simp only [push_cast, seval]))))); done)); intro e hm) | ((with_reducible apply O_appVX hm); (iterate 2 (simp only [push_cast, seval]; rfl)); (focus ((repeat' (first | rfl | (with_reducible first | apply eR_nil | apply eR_app | apply eR_cons | apply et1 | apply eT_Tapi_Flaw | apply et4 | apply et8 | apply et5 | apply et3 | apply et7 | apply et9 | apply et2 | apply et6 | apply eR_I | apply eR_Y | apply eR_S | apply eR_B) | (with_reducible apply sv_d; (focus ((repeat' (first | rfl | (with_reducible first | apply ft1 | apply ft7 | apply ft4 | apply ft9 | apply ft5 | apply ft3 | apply ft8 | apply ft10 | apply ft2 | apply ft6 | apply f_optN | apply f_optS | apply f_some | apply f_tup | apply f_agg | apply f_ptr | apply f_fn | apply dv_slice | apply sv_d | apply f_cons | apply fold_nil | apply fold_cons | apply fold_app | apply f_rowI | apply f_rowY | apply f_rowS | apply f_rowB | apply f_rowL) | (with_reducible apply f_byte; decide))); done))))); done)); (simp only [push_cast, seval]; rfl); (focus ((repeat' (first | rfl | (with_reducible first | apply eR_nil | apply eR_app | apply eR_cons | apply et1 | apply eT_Tapi_Flaw | apply et4 | apply et8 | apply et5 | apply et3 | apply et7 | apply et9 | apply et2 | apply et6 | apply eR_I | apply eR_Y | apply eR_S | apply eR_B) | (with_reducible apply sv_d; (focus ((repeat' (first | rfl | (with_reducible first | apply ft1 | apply ft7 | apply ft4 | apply ft9 | apply ft5 | apply ft3 | apply ft8 | apply ft10 | apply ft2 | apply ft6 | apply f_optN | apply f_optS | apply f_some | apply f_tup | apply f_agg | apply f_ptr | apply f_fn | apply dv_slice | apply sv_d | apply f_cons | apply fold_nil | apply fold_cons | apply fold_app | apply f_rowI | apply f_rowY | apply f_rowS | apply f_rowB | apply f_rowL) | (with_reducible apply f_byte; decide))); done))))); done)); (intro _; rfl); (focus ((repeat' (first | exact Rer_nil | ((with_reducible apply Rer_idx); (focus (simp only [push_cast, seval]; rfl)); (focus (simp only [push_cast, seval]; rfl)); rotate_left 2; (focus (first | (simp only [push_cast, seval]; rfl) | (simp only [push_cast, seval]; done))); rotate_left; (focus assumption); (focus (intro _; rfl))) | ((with_reducible apply Rer_cons); (focus (simp only [push_cast, seval]; rfl)); (focus (first | exact trivial | omega)); (focus (simp only [push_cast, seval]))))); done)); intro hm) | ((with_reducible apply O_appX2 hm); (iterate 4 (simp only [push_cast, seval]; rfl)); rfl; (focus ((repeat' (first | exact Rer_nil | ((with_reducible apply Rer_idx); (focus (simp only [push_cast, seval]; rfl)); (focus (simp only [push_cast, seval]; rfl)); rotate_left 2; (focus (first | (simp only [push_cast, seval]; rfl) | (simp only [push_cast, seval]; done))); rotate_left; (focus assumption); (focus (intro _; rfl))) | ((with_reducible apply Rer_cons); (focus (simp only [push_cast, seval]; rfl)); (focus (first | exact trivial | omega)); (focus (simp only [push_cast, seval]))))); done)); intro hm) | ((with_reducible apply O_appNX hm); (focus (simp only [push_cast, seval]; done)); (iterate 2 (simp only [push_cast, seval]; rfl)); rfl; (focus ((repeat' (first | exact Rer_nil | ((with_reducible apply Rer_idx); (focus (simp only [push_cast, seval]; rfl)); (focus (simp only [push_cast, seval]; rfl)); rotate_left 2; (focus (first | (simp only [push_cast, seval]; rfl) | (simp only [push_cast, seval]; done))); rotate_left; (focus assumption); (focus (intro _; rfl))) | ((with_reducible apply Rer_cons); (focus (simp only [push_cast, seval]; rfl)); (focus (first | exact trivial | omega)); (focus (simp only [push_cast, seval]))))); done)); intro hm) | ((with_reducible apply O_stVX hm); (iterate 3 (simp only [push_cast, seval]; rfl)); rfl; (intro _; rfl); rfl; (focus (intro a; simp only [push_cast, seval]; rfl)); (focus (intro a; (repeat' (first | rfl | with_reducible apply et1 | with_reducible apply eT_Tapi_Flaw | with_reducible apply et4 | with_reducible apply et8 | with_reducible apply et5 | with_reducible apply et3 | with_reducible apply et7 | with_reducible apply et9 | with_reducible apply et2 | with_reducible apply et6)); done)); (focus (intro _; (repeat' (first | exact Rer_nil | ((with_reducible apply Rer_idx); (focus (simp only [push_cast, seval]; rfl)); (focus (simp only [push_cast, seval]; rfl)); rotate_left 2; (focus (first | (simp only [push_cast, seval]; rfl) | (simp only [push_cast, seval]; done))); rotate_left; (focus assumption); (focus (intro _; rfl))) | ((with_reducible apply Rer_cons); (focus (simp only [push_cast, seval]; rfl)); (focus (first | exact trivial | omega)); (focus (simp only [push_cast, seval]))))); done)); intro e hm) | ((with_reducible apply O_x); (simp only [push_cast, seval]; rfl); (first | exact trivial | omega); (focus ((repeat' (first | exact Rer_nil | ((with_reducible apply Rer_idx); (focus (simp only [push_cast, seval]; rfl)); (focus (simp only [push_cast, seval]; rfl)); rotate_left 2; (focus (first | (simp only [push_cast, seval]; rfl) | (simp only [push_cast, seval]; done))); rotate_left; (focus assumption); (focus (intro _; rfl))) | ((with_reducible apply Rer_cons); (focus (simp only [push_cast, seval]; rfl)); (focus (first | exact trivial | omega)); (focus (simp only [push_cast, seval]))))); done))) | ((with_reducible apply S_condB hm); (simp only [push_cast, seval]; rfl); intro hm; rotate_left; intro hm) | ((with_reducible apply K_end2 hm); (focus (simp only [resOf, resL, RV.get, push_cast, seval]; rfl)); (focus (first | (dsimp only; done) | (dsimp only; rfl) | rfl)); (focus ((repeat' (first | rfl | (with_reducible first | apply ft1 | apply ft7 | apply ft4 | apply ft9 | apply ft5 | apply ft3 | apply ft8 | apply ft10 | apply ft2 | apply ft6 | apply f_optN | apply f_optS | apply f_some | apply f_tup | apply f_agg | apply f_ptr | apply f_fn | apply dv_slice | apply sv_d | apply f_cons | apply fold_nil | apply fold_cons | apply fold_app | apply f_rowI | apply f_rowY | apply f_rowS | apply f_rowB | apply f_rowL) | (with_reducible apply f_byte; decide))); done))) | ((with_reducible apply K_bool hm); (simp only [push_cast, seval]; rfl)) | ((with_reducible apply K_leave hm); intro r hm) | ((with_reducible apply K_leaveR hm); intro r hm) | ((apply S_loopY (b := 2) (X := c198) (x := c197) rfl (fun (c : SV × SV × Ch × SV) (s : (List UInt8) × (List UInt8) × (List UInt8) × Int × Int × Bool × (List T4) × (List UInt8) × (List UInt8) × (List T3) × Int) => st [(2, c.1), (3, c.2.1), (4, .ref 4 0), (8, .ref 8 0), (9, c.2.2.2), (10, .ref 10 0), (11, .d (.int .i64 s.2.2.2.2.2.2.2.2.2.2))] [(1262, .vec 54 3 (vrow r8 s.2.2.2.2.2.2.1)), (8, .box (bt2 s.1 s.2.1 s.2.2.1 s.2.2.2.1 s.2.2.2.2.1 s.2.2.2.2.2.1 1262)), (1322, .vec 56 4 (vrow r7 s.2.2.2.2.2.2.2.2.2.1)), (10, .box (bt1 s.2.2.2.2.2.2.2.1 s.2.2.2.2.2.2.2.2.1 1322)), (4, c.2.2.1)]) (c := (_, _, _, _)) (s0 := (_, _, _, _, _, _, _, _, _, _, _)) hm); (focus (first | (dsimp only; done) | (dsimp only; rfl) | rfl)); (with_reducible refine Then.mk ?_ ?_)) | ((apply S_loopY (b := 0) (X := c201) (x := c200) rfl (fun (c : SV × SV × Ch) (s : (List UInt8) × (List UInt8) × (List UInt8) × Int × Int × Bool × (List T4) × Int) => st [(2, c.1), (3, c.2.1), (4, .ref 4 0), (8, .ref 8 0), (9, .d (.int .i64 s.2.2.2.2.2.2.2))] [(1262, .vec 54 3 (vrow r8 s.2.2.2.2.2.2.1)), (8, .box (bt2 s.1 s.2.1 s.2.2.1 s.2.2.2.1 s.2.2.2.2.1 s.2.2.2.2.2.1 1262)), (4, c.2.2)]) (c := (_, _, _)) (s0 := (_, _, _, _, _, _, _, _)) hm); (focus (first | (dsimp only; done) | (dsimp only; rfl) | rfl)); (with_reducible refine Then.mk ?_ ?_)) | ((apply K_next (s' := (_, _, _, _, _, _, _, _, _, _, _)) hm); (focus (first | (dsimp only; done) | (dsimp only; rfl) | rfl))) | ((apply K_brk (s' := (_, _, _, _, _, _, _, _, _, _, _)) hm); (focus (first | (dsimp only; done) | (dsimp only; rfl) | rfl))) | ((apply K_next (s' := (_, _, _, _, _, _, _, _)) hm); (focus (first | (dsimp only; done) | (dsimp only; rfl) | rfl))) | ((apply K_brk (s' := (_, _, _, _, _, _, _, _)) hm); (focus (first | (dsimp only; done) | (dsimp only; rfl) | rfl))) | (((with_reducible apply K_brkN hm); (focus decide); intro r hm)) | (((with_reducible apply K_brkR hm); intro r hm)) | (((with_reducible apply LoopB.of); (focus (first | (dsimp only; done) | (dsimp only; rfl) | rfl)); (focus ((intro _; repeat' (first | with_reducible exact impC_end | with_reducible exact impC_endF | with_reducible refine impC_seq ?_ | with_reducible refine impC_block ?_ | ((with_reducible refine impC_rnd ?_); intro _) | ((with_reducible refine impC_brk ?_); intro _))))); (intro s o hm; first | unfold c197 | unfold c200); rotate_left; intro s hm)) | (((with_reducible apply Imp.trans); (focus ((apply imp_openBs (id := 8) (cid := 1262) (off := 6) (n := 3) (e := 54)); (focus (simp only [push_cast, seval]; (try rfl); done)); (focus (simp only [push_cast, seval]; (try rfl); done)); (focus decide); (focus rfl); (focus (intro _; rfl)); (focus (simp only [push_cast, seval]; (try rfl); done)))))) | (((with_reducible apply Imp.trans); (focus ((apply imp_nilB (id := 8) (cid := 1262) (off := 6) (n := 3) (e := 54)); (focus (simp only [push_cast, seval]; (try rfl); done)); (focus (simp only [push_cast, seval]; (try rfl); done)); (focus decide); (focus (simp only [push_cast, seval]; (try rfl); done)))))) | (((with_reducible apply Imp.trans); (focus ((apply imp_openBs (id := 10) (cid := 1322) (off := 2) (n := 4) (e := 56)); (focus (simp only [push_cast, seval]; (try rfl); done)); (focus (simp only [push_cast, seval]; (try rfl); done)); (focus decide); (focus rfl); (focus (intro _; rfl)); (focus (simp only [push_cast, seval]; (try rfl); done)))))) | (((with_reducible apply Imp.trans); (focus ((apply imp_nilB (id := 10) (cid := 1322) (off := 2) (n := 4) (e := 56)); (focus (simp only [push_cast, seval]; (try rfl); done)); (focus (simp only [push_cast, seval]; (try rfl); done)); (focus decide); (focus (simp only [push_cast, seval]; (try rfl); done)))))) | (((apply imp_stT; (repeat' (first | with_reducible exact keepT_nil | with_reducible exact keepC_nil | with_reducible apply keepT_cons | with_reducible apply keepC_cons | ((with_reducible apply svle_eq); (focus (first | (simp only [push_cast, seval]; rfl) | rfl)); (focus ((repeat' (first | rfl | (with_reducible first | apply ft1 | apply ft7 | apply ft4 | apply ft9 | apply ft5 | apply ft3 | apply ft8 | apply ft10 | apply ft2 | apply ft6 | apply f_optN | apply f_optS | apply f_some | apply f_tup | apply f_agg | apply f_ptr | apply f_fn | apply dv_slice | apply sv_d | apply f_cons | apply fold_nil | apply fold_cons | apply fold_app | apply f_rowI | apply f_rowY | apply f_rowS | apply f_rowB | apply f_rowL) | (with_reducible apply f_byte; decide))); done))) | ((with_reducible apply svle_td); (focus (first | (simp only [push_cast, seval]; rfl) | rfl)); (focus (first | (simp only [push_cast, seval]; rfl) | rfl)); (focus ((repeat' (first | rfl | (with_reducible first | apply ft1 | apply ft7 | apply ft4 | apply ft9 | apply ft5 | apply ft3 | apply ft8 | apply ft10 | apply ft2 | apply ft6 | apply f_optN | apply f_optS | apply f_some | apply f_tup | apply f_agg | apply f_ptr | apply f_fn | apply dv_slice | apply sv_d | apply f_cons | apply fold_nil | apply fold_cons | apply fold_app | apply f_rowI | apply f_rowY | apply f_rowS | apply f_rowB | apply f_rowL) | (with_reducible apply f_byte; decide))); done))) | ((with_reducible apply chle_eq); (focus (first | (simp only [push_cast, seval]; rfl) | rfl)); (first | with_reducible exact chle_rfl rfl | with_reducible exact chle_map0 | with_reducible apply chle_vec | with_reducible apply chle_box)) | (with_reducible first | apply ct1 | apply ct7 | apply ct4 | apply ct9 | apply ct5 | apply ct3 | apply ct8 | apply ct10 | apply ct2 | apply ct6 | apply bct1 | apply bct2 | apply r_shS | apply r_shI | apply r_rflO | apply r_oneO | apply r_appO | apply r_nilO | apply c_ownN | apply c_ownL | apply vc_rfl | apply vc_nil | apply vc_cons | apply r_rfl | apply r_rows | apply r_nil | apply r_app | apply r_cons | apply c_rowI | apply c_rowY | apply c_rowS | apply c_rowB | apply c_rowL))); done))))
noncomputable def m85 (x0 : T5) (x1 : T10) : Option (T5 × Int) := (w23 x0 x1).1
theorem s81 (x0 : T5) (x1 : T10) : ∀ r, m85 x0 x1 = some r → PureSpec Tryz.prog 7 [.agg (r9 x0), .agg (r14 x1)] (.tup [.agg (r9 r.1), .int .i64 r.2]) := (w23 x0 x1).2
def c204 : SC :=
  (.seq (.reg [.r 2 (.boxI (.t 0)),
     .r 3 (.boxI (.t 1)),
     .r 4 (.mv (.c (.d (.bool false))))])
  (.seq (.reg (.r 5 (.fld 0 (.t 2)) :: .o 6 (.ld1 (.t 5)) :: .r 7 (.fld 0 (.t 3)) :: .o 8 (.ld1 (.t 7)) :: .r 9 (.bin .eql (.t 6) (.t 8)) :: .r 10 (.mv (.t 9)) :: gapp [11, 12, 13, 14, 15] 10 true (.r 11 (.fld 6 (.t 2)) :: .r 12 (.ld1 (.t 11)) :: .r 13 (.fld 2 (.t 3)) :: .r 14 (.ld1 (.t 13)) :: .c 15 (.f 56) [.t 12, .t 14, .f 57] :: []) (.r 16 (.pick (.t 10) (.t 15) (.c (.d (.bool false)))) :: .r 4 (.mv (.t 16)) :: [])))
  .ret))
theorem k88 : fits Tryz.prog 24 Tryz.f24 c204 [.t 4] 2 = true := by kernel_rfl
def c205 : SC :=
  (.seq (.seq (.reg [.r 11 (.mv (.t 5)),
     .r 12 (.mv (.t 0)),
     .r 13 (.len (.t 12)),
     .r 14 (.bin .lss (.t 11) (.t 13))])
  (.cond (.t 14)
    .skip
    (.exit 0)))
  (.seq (.block 1 (.seq (.regD [.r 17 (.mv (.t 0)),
       .r 18 (.mv (.t 5)),
       .r 19 (.idx 2 (.t 17) (.t 18)),
       .r 20 (.ldA 2 (.t 19)),
       .r 21 (.mv (.t 1)),
       .r 22 (.mv (.t 5)),
       .r 23 (.idx 2 (.t 21) (.t 22)),
       .r 24 (.ldA 2 (.t 23)),
       .c 25 (.f 46) [.t 20, .t 24],
       .r 26 (.not (.t 25))])
    (.cond (.t 26)
      (.seq (.reg [.r 4 (.mv (.c (.d (.bool false))))])
      .ret)
      .skip)))
  (.reg [.r 15 (.mv (.t 5)),
     .r 16 (.bin .add (.t 15) (.c (.d (.int .i64 1)))),
     .r 5 (.mv (.t 16))])))
def c206 : SC := .block 0 (.loop c205)
def c207 : SC :=
  (.seq (.reg [.r 4 (.mv (.c (.d (.bool false))))])
  (.seq (.seq (.reg [.r 6 (.mv (.t 0)),
     .r 7 (.len (.t 6)),
     .r 8 (.mv (.t 1)),
     .r 9 (.len (.t 8)),
     .r 10 (.bin .neq (.t 7) (.t 9))])
  (.cond (.t 10)
    (.seq (.reg [.r 4 (.mv (.c (.d (.bool false))))])
    .ret)
    .skip))
  (.seq (.seq (.reg [.r 5 (.mv (.c (.d (.int .i64 0))))])
  c206)
  (.seq (.reg [.r 4 (.mv (.c (.d (.bool true))))])
  .ret))))
theorem k89 : fits Tryz.prog 16 Tryz.f16 c207 [.t 4] 2 = true := by kernel_rfl
def c208 : SC :=
  (.seq (.reg [.r 4 (.mv (.c (.d (.int .i64 0))))])
  (.seq (.reg [.r 6 (.mv (.t 0)),
     .r 7 (.mv (.t 1)),
     .r 8 (.idx 5 (.t 6) (.t 7)),
     .o 9 (.ldA 5 (.t 8)),
     .w 5 (.boxM (.c (.agg [.d (.int .i64 0), .d (.int .i64 0), .d (.int .i64 0), .d (.str []), .d (.int .i64 0)]))),
     .w 0 (.st 5 (.t 5) (.t 9))])
  (.seq (.seq (.reg [.r 10 (.fld 0 (.t 5)),
     .o 11 (.ld1 (.t 10)),
     .c 12 (.f 40) [.t 11, .c (.d (.int .i64 1)), .c (.d (.int .i64 2))]])
  (.cond (.t 12)
    (.seq (.reg [.r 4 (.mv (.c (.d (.int .i64 4))))])
    .ret)
    .skip))
  (.seq (.seq (.reg [.r 13 (.fld 1 (.t 5)),
     .o 14 (.ld1 (.t 13)),
     .c 15 (.f 66) [.t 14],
     .r 16 (.not (.t 15))])
  (.cond (.t 16)
    (.seq (.reg [.r 4 (.mv (.c (.d (.int .i64 1))))])
    .ret)
    .skip))
  (.seq (.seq (.reg [.r 17 (.fld 3 (.t 5)),
     .o 18 (.ld1 (.t 17)),
     .c 19 (.f 37) [.t 18],
     .r 20 (.not (.t 19))])
  (.cond (.t 20)
    (.seq (.reg [.r 4 (.mv (.c (.d (.int .i64 3))))])
    .ret)
    .skip))
  (.seq (.block 0 (.seq (.reg (.r 22 (.fld 0 (.t 5)) :: .o 23 (.ld1 (.t 22)) :: .r 24 (.bin .eql (.t 23) (.c (.d (.int .i64 1)))) :: .r 25 (.mv (.t 24)) :: gapp [26, 27, 28] 25 true (.r 26 (.fld 4 (.t 5)) :: .r 27 (.ld1 (.t 26)) :: .r 28 (.bin .neq (.t 27) (.c (.d (.int .i64 0)))) :: []) (.r 29 (.pick (.t 25) (.t 28) (.c (.d (.bool false)))) :: .r 21 (.mv (.t 29)) :: [])))
    (.cond (.t 21)
      (.seq (.reg [.r 4 (.mv (.c (.d (.int .i64 3))))])
      .ret)
      (.seq (.reg (.r 31 (.fld 0 (.t 5)) :: .o 32 (.ld1 (.t 31)) :: .r 33 (.bin .eql (.t 32) (.c (.d (.int .i64 1)))) :: .r 34 (.mv (.t 33)) :: gapp [35, 36, 37, 38, 39, 40, 41, 42] 34 true (.r 35 (.fld 2 (.t 5)) :: .r 36 (.ld1 (.t 35)) :: .r 37 (.fld 1 (.t 5)) :: .r 38 (.ld1 (.t 37)) :: .r 39 (.fld 1 (.t 5)) :: .r 40 (.ld1 (.t 39)) :: .r 41 (.bin .add (.t 40) (.c (.d (.int .i64 10000000)))) :: .c 42 (.f 40) [.t 36, .t 38, .t 41] :: []) (.r 43 (.pick (.t 34) (.t 42) (.c (.d (.bool false)))) :: .r 30 (.mv (.t 43)) :: [])))
      (.cond (.t 30)
        (.seq (.reg [.r 4 (.mv (.c (.d (.int .i64 1))))])
        .ret)
        (.seq (.reg (.r 45 (.fld 0 (.t 5)) :: .o 46 (.ld1 (.t 45)) :: .r 47 (.bin .eql (.t 46) (.c (.d (.int .i64 2)))) :: .r 48 (.mv (.t 47)) :: gapp [49, 50, 51] 48 true (.r 49 (.fld 2 (.t 5)) :: .r 50 (.ld1 (.t 49)) :: .r 51 (.bin .neq (.t 50) (.c (.d (.int .i64 0)))) :: []) (.r 52 (.pick (.t 48) (.t 51) (.c (.d (.bool false)))) :: .r 44 (.mv (.t 52)) :: [])))
        (.cond (.t 44)
          (.seq (.reg [.r 4 (.mv (.c (.d (.int .i64 3))))])
          .ret)
          (.seq (.reg (.r 54 (.fld 0 (.t 5)) :: .o 55 (.ld1 (.t 54)) :: .r 56 (.bin .eql (.t 55) (.c (.d (.int .i64 2)))) :: .r 57 (.mv (.t 56)) :: gapp [58, 59, 60, 61] 57 true (.r 58 (.fld 4 (.t 5)) :: .r 59 (.ld1 (.t 58)) :: .c 60 (.f 53) [.t 59] :: .r 61 (.not (.t 60)) :: []) (.r 62 (.pick (.t 57) (.t 61) (.c (.d (.bool false)))) :: .r 53 (.mv (.t 62)) :: [])))
          (.cond (.t 53)
            (.seq (.reg [.r 4 (.mv (.c (.d (.int .i64 4))))])
            .ret)
            (.seq (.regD (.r 64 (.mv (.t 1)) :: .r 65 (.bin .gtr (.t 64) (.c (.d (.int .i64 0)))) :: .r 66 (.mv (.t 65)) :: gapp [67, 68, 69, 70, 71, 72, 73, 74, 75] 66 true (.r 67 (.fld 1 (.t 5)) :: .r 68 (.ld1 (.t 67)) :: .r 69 (.mv (.t 0)) :: .r 70 (.mv (.t 1)) :: .r 71 (.bin .sub (.t 70) (.c (.d (.int .i64 1)))) :: .r 72 (.idx 5 (.t 69) (.t 71)) :: .r 73 (.fld 1 (.t 72)) :: .r 74 (.ld1 (.t 73)) :: .r 75 (.bin .lss (.t 68) (.t 74)) :: []) (.r 76 (.pick (.t 66) (.t 75) (.c (.d (.bool false)))) :: .r 63 (.mv (.t 76)) :: [])))
            (.cond (.t 63)
              (.seq (.reg [.r 4 (.mv (.c (.d (.int .i64 8))))])
              .ret)
              .skip)))))))))))
  (.seq (.reg [.r 4 (.mv (.c (.d (.int .i64 0))))])
  .ret)))))))
theorem k90 : fits Tryz.prog 101 Tryz.f101 c208 [.t 4] 2 = true := by kernel_rfl
set_option maxRecDepth 100000 in
set_option maxHeartbeats 40000000 in
noncomputable def w24 : (∀ (x0 : T5) (x1 : T10), {m : Option (Bool) // ∀ r, m = some r → PureSpec Tryz.prog 24 [.agg (r9 x0), .agg (r14 x1)] (.bool r)}) × (∀ (x0 : List T2) (x1 : List T2), {m : Option (Bool) // ∀ r, m = some r → PureSpec Tryz.prog 16 [.slice (List.map r6 x0), .slice (List.map r6 x1)] (.bool r)}) × (∀ (x0 : List T11) (x1 : Int), {m : Option (Int) // ∀ r, m = some r → PureSpec Tryz.prog 101 [.slice (List.map r15 x0), .int .i64 x1] (.int .i64 r)}) := by
  refine ⟨?g0, ?g1, ?g2⟩
  case' g0 => (intro x0 x1; apply Subtype.mk; intro r hm; apply pure_walk Tryz.func24 k88; unfold c204)
  case' g1 => (intro x0 x1; apply Subtype.mk; intro r hm; apply pure_walk Tryz.func16 k89; unfold c207)
  case' g2 => (intro x0 x1; apply Subtype.mk; intro r hm; apply pure_walk Tryz.func101 k90; unfold c208)
  all_goals (repeat' (first | with_reducible refine W_seq ?_ | with_reducible refine W_reg ?_ | with_reducible refine W_regD ?_ | with_reducible refine W_block ?_ | with_reducible refine W_skip ?_ | with_reducible refine W_ret ?_ | with_reducible refine W_exit ?_ | with_reducible refine O_nil ?_ | with_reducible refine K_seq ?_ | with_reducible refine K_seqE ?_ | with_reducible refine K_seqR ?_ | with_reducible refine K_block ?_ | with_reducible refine K_blockR ?_ | with_reducible refine K_blockE ?_ | ((with_reducible apply K_blockN); decide) | with_reducible refine O_o2r ?_ | ((with_reducible apply O_idxr hm); (iterate 2 (simp only [push_cast, seval]; rfl)); (intro _; rfl); intro e hm) | ((with_reducible apply O_idxVr hm); (iterate 3 (simp only [push_cast, seval]; rfl)); intro e hm) | ((with_reducible apply O_r); (simp only [push_cast, seval]; rfl); (first | exact trivial | omega)) | ((with_reducible apply O_ldV1r hm); (iterate 2 (simp only [push_cast, seval]; rfl)); (intro _; rfl); intro e hm) | ((with_reducible apply O_ldAVr hm); (iterate 2 (simp only [push_cast, seval]; rfl)); (intro _; rfl); intro e hm) | ((with_reducible apply O_strr hm); (iterate 2 (simp only [push_cast, seval]; rfl)); intro hm) | ((with_reducible apply O_and hm); (simp only [push_cast, seval]; rfl); rfl; intro v hm; rotate_left; intro v g hm) | ((with_reducible apply W_condT); (focus (simp only [push_cast, seval]; done))) | ((with_reducible apply W_condF); (focus (simp only [push_cast, seval]; done))) | ((with_reducible apply O_cF hm); (simp only [push_cast, seval]; rfl); (first | apply s70 _ _ _ _ _ (fun a0 a1 r h => s77 a0 a1 r h) | apply s77 _ _ | apply s78 _ _ | apply s17 _ _ _ | apply s79 _ | apply s29 _ | apply s50 _); (any_goals ((repeat' (first | rfl | (with_reducible first | apply ft1 | apply ft7 | apply ft4 | apply ft9 | apply ft5 | apply ft3 | apply ft8 | apply ft10 | apply ft2 | apply ft6 | apply ft11 | apply f_optN | apply f_optS | apply f_some | apply f_tup | apply f_agg | apply f_ptr | apply f_fn | apply dv_slice | apply sv_d | apply f_cons | apply fold_nil | apply fold_cons | apply fold_app | apply f_rowI | apply f_rowY | apply f_rowS | apply f_rowB | apply f_rowL) | (with_reducible apply f_byte; decide))); done)); intro x hm) | ((with_reducible apply O_w); (simp only [push_cast, seval]; rfl); (first | exact trivial | omega)) | ((with_reducible apply O_stVA hm); (iterate 4 (simp only [push_cast, seval]; rfl)); (focus ((repeat' (first | rfl | (with_reducible first | apply ft1 | apply ft7 | apply ft4 | apply ft9 | apply ft5 | apply ft3 | apply ft8 | apply ft10 | apply ft2 | apply ft6 | apply ft11 | apply f_optN | apply f_optS | apply f_some | apply f_tup | apply f_agg | apply f_ptr | apply f_fn | apply dv_slice | apply sv_d | apply f_cons | apply fold_nil | apply fold_cons | apply fold_app | apply f_rowI | apply f_rowY | apply f_rowS | apply f_rowB | apply f_rowL) | (with_reducible apply f_byte; decide))); done)); decide; (intro _; rfl); intro e hm) | ((with_reducible apply S_condB hm); (simp only [push_cast, seval]; rfl); intro hm; rotate_left; intro hm) | ((with_reducible apply K_endS hm); (focus (simp only [resOf, resL, RV.get, push_cast, seval]; rfl)); (focus ((repeat' (first | rfl | (with_reducible first | apply ft1 | apply ft7 | apply ft4 | apply ft9 | apply ft5 | apply ft3 | apply ft8 | apply ft10 | apply ft2 | apply ft6 | apply ft11 | apply f_optN | apply f_optS | apply f_some | apply f_tup | apply f_agg | apply f_ptr | apply f_fn | apply dv_slice | apply sv_d | apply f_cons | apply fold_nil | apply fold_cons | apply fold_app | apply f_rowI | apply f_rowY | apply f_rowS | apply f_rowB | apply f_rowL) | (with_reducible apply f_byte; decide))); done))) | ((with_reducible apply K_bool hm); (simp only [push_cast, seval]; rfl)) | ((with_reducible apply K_leave hm); intro r hm) | ((with_reducible apply K_leaveR hm); intro r hm) | ((apply S_loopY (b := 0) (X := c206) (x := c205) rfl (fun (c : SV × SV) (s : Int) => st [(0, c.1), (1, c.2), (5, .d (.int .i64 s))] []) (c := (_, _)) (s0 := _) hm); (focus (first | (dsimp only; done) | (dsimp only; rfl) | rfl)); (with_reducible refine Then.mk ?_ ?_)) | ((apply K_next (s' := _) hm); (focus (first | (dsimp only; done) | (dsimp only; rfl) | rfl))) | ((apply K_brk (s' := _) hm); (focus (first | (dsimp only; done) | (dsimp only; rfl) | rfl))) | (((with_reducible apply K_brkN hm); (focus decide); intro r hm)) | (((with_reducible apply K_brkR hm); intro r hm)) | (((with_reducible apply LoopB.of); (focus (first | (dsimp only; done) | (dsimp only; rfl) | rfl)); (focus ((intro _; repeat' (first | with_reducible exact impC_end | with_reducible exact impC_endF | with_reducible refine impC_seq ?_ | with_reducible refine impC_block ?_ | ((with_reducible refine impC_rnd ?_); intro _) | ((with_reducible refine impC_brk ?_); intro _))))); (intro s o hm; first | unfold c205); rotate_left; intro s hm)) | (((apply imp_stT; (repeat' (first | with_reducible exact keepT_nil | with_reducible exact keepC_nil | with_reducible apply keepT_cons | with_reducible apply keepC_cons | ((with_reducible apply svle_eq); (focus (first | (simp only [push_cast, seval]; rfl) | rfl)); (focus ((repeat' (first | rfl | (with_reducible first | apply ft1 | apply ft7 | apply ft4 | apply ft9 | apply ft5 | apply ft3 | apply ft8 | apply ft10 | apply ft2 | apply ft6 | apply ft11 | apply f_optN | apply f_optS | apply f_some | apply f_tup | apply f_agg | apply f_ptr | apply f_fn | apply dv_slice | apply sv_d | apply f_cons | apply fold_nil | apply fold_cons | apply fold_app | apply f_rowI | apply f_rowY | apply f_rowS | apply f_rowB | apply f_rowL) | (with_reducible apply f_byte; decide))); done))) | ((with_reducible apply svle_td); (focus (first | (simp only [push_cast, seval]; rfl) | rfl)); (focus (first | (simp only [push_cast, seval]; rfl) | rfl)); (focus ((repeat' (first | rfl | (with_reducible first | apply ft1 | apply ft7 | apply ft4 | apply ft9 | apply ft5 | apply ft3 | apply ft8 | apply ft10 | apply ft2 | apply ft6 | apply ft11 | apply f_optN | apply f_optS | apply f_some | apply f_tup | apply f_agg | apply f_ptr | apply f_fn | apply dv_slice | apply sv_d | apply f_cons | apply fold_nil | apply fold_cons | apply fold_app | apply f_rowI | apply f_rowY | apply f_rowS | apply f_rowB | apply f_rowL) | (with_reducible apply f_byte; decide))); done))) | ((with_reducible apply chle_eq); (focus (first | (simp only [push_cast, seval]; rfl) | rfl)); (first | with_reducible exact chle_rfl rfl | with_reducible exact chle_map0 | with_reducible apply chle_vec | with_reducible apply chle_box)) | (with_reducible first | apply ct1 | apply ct7 | apply ct4 | apply ct9 | apply ct5 | apply ct3 | apply ct8 | apply ct10 | apply ct2 | apply ct6 | apply ct11 | apply bct1 | apply bct2 | apply r_shS | apply r_shI | apply r_rflO | apply r_oneO | apply r_appO | apply r_nilO | apply c_ownN | apply c_ownL | apply vc_rfl | apply vc_nil | apply vc_cons | apply r_rfl | apply r_rows | apply r_nil | apply r_app | apply r_cons | apply c_rowI | apply c_rowY | apply c_rowS | apply c_rowB | apply c_rowL))); done)))))
noncomputable def m86 (x0 : T5) (x1 : T10) : Option (Bool) := (w24.1 x0 x1).1
theorem s82 (x0 : T5) (x1 : T10) : ∀ r, m86 x0 x1 = some r → PureSpec Tryz.prog 24 [.agg (r9 x0), .agg (r14 x1)] (.bool r) := (w24.1 x0 x1).2
noncomputable def m87 (x0 : List T2) (x1 : List T2) : Option (Bool) := (w24.2.1 x0 x1).1
theorem s83 (x0 : List T2) (x1 : List T2) : ∀ r, m87 x0 x1 = some r → PureSpec Tryz.prog 16 [.slice (List.map r6 x0), .slice (List.map r6 x1)] (.bool r) := (w24.2.1 x0 x1).2
noncomputable def m88 (x0 : List T11) (x1 : Int) : Option (Int) := (w24.2.2 x0 x1).1
theorem s84 (x0 : List T11) (x1 : Int) : ∀ r, m88 x0 x1 = some r → PureSpec Tryz.prog 101 [.slice (List.map r15 x0), .int .i64 x1] (.int .i64 r) := (w24.2.2 x0 x1).2
def c209 : SC :=
  (.seq (.seq (.reg [.r 11 (.mv (.t 5)),
     .r 12 (.mv (.t 0)),
     .r 13 (.len (.t 12)),
     .r 14 (.bin .lss (.t 11) (.t 13))])
  (.cond (.t 14)
    .skip
    (.exit 0)))
  (.seq (.block 1 (.seq (.regD (.r 17 (.mv (.t 0)) :: .r 18 (.mv (.t 5)) :: .r 19 (.idx 4 (.t 17) (.t 18)) :: .r 20 (.fld 0 (.t 19)) :: .r 21 (.ld1 (.t 20)) :: .r 22 (.mv (.t 1)) :: .r 23 (.mv (.t 5)) :: .r 24 (.idx 4 (.t 22) (.t 23)) :: .r 25 (.fld 0 (.t 24)) :: .r 26 (.ld1 (.t 25)) :: .r 27 (.bin .neq (.t 21) (.t 26)) :: .r 28 (.mv (.t 27)) :: gapp [29, 30, 31, 32, 33, 34, 35, 36, 37, 38, 39] 28 false (.r 29 (.mv (.t 0)) :: .r 30 (.mv (.t 5)) :: .r 31 (.idx 4 (.t 29) (.t 30)) :: .r 32 (.fld 1 (.t 31)) :: .r 33 (.ld1 (.t 32)) :: .r 34 (.mv (.t 1)) :: .r 35 (.mv (.t 5)) :: .r 36 (.idx 4 (.t 34) (.t 35)) :: .r 37 (.fld 1 (.t 36)) :: .r 38 (.ld1 (.t 37)) :: .r 39 (.bin .neq (.t 33) (.t 38)) :: []) (.r 40 (.pick (.t 28) (.c (.d (.bool true))) (.t 39)) :: .r 41 (.mv (.t 40)) :: gapp [42, 43, 44, 45, 46, 47, 48, 49, 50, 51, 52] 41 false (.r 42 (.mv (.t 0)) :: .r 43 (.mv (.t 5)) :: .r 44 (.idx 4 (.t 42) (.t 43)) :: .r 45 (.fld 2 (.t 44)) :: .r 46 (.ld1 (.t 45)) :: .r 47 (.mv (.t 1)) :: .r 48 (.mv (.t 5)) :: .r 49 (.idx 4 (.t 47) (.t 48)) :: .r 50 (.fld 2 (.t 49)) :: .r 51 (.ld1 (.t 50)) :: .r 52 (.bin .neq (.t 46) (.t 51)) :: []) (.r 53 (.pick (.t 41) (.c (.d (.bool true))) (.t 52)) :: .r 54 (.mv (.t 53)) :: gapp [55, 56, 57, 58, 59, 60, 61, 62, 63, 64, 65, 66] 54 false (.r 55 (.mv (.t 0)) :: .r 56 (.mv (.t 5)) :: .r 57 (.idx 4 (.t 55) (.t 56)) :: .r 58 (.fld 3 (.t 57)) :: .r 59 (.ld1 (.t 58)) :: .r 60 (.mv (.t 1)) :: .r 61 (.mv (.t 5)) :: .r 62 (.idx 4 (.t 60) (.t 61)) :: .r 63 (.fld 3 (.t 62)) :: .r 64 (.ld1 (.t 63)) :: .c 65 (.f 16) [.t 59, .t 64] :: .r 66 (.not (.t 65)) :: []) (.r 67 (.pick (.t 54) (.c (.d (.bool true))) (.t 66)) :: [])))))
    (.cond (.t 67)
      (.seq (.reg [.r 4 (.mv (.c (.d (.bool false))))])
      .ret)
      .skip)))
  (.reg [.r 15 (.mv (.t 5)),
     .r 16 (.bin .add (.t 15) (.c (.d (.int .i64 1)))),
     .r 5 (.mv (.t 16))])))
def c210 : SC := .block 0 (.loop c209)
def c211 : SC :=
  (.seq (.reg [.r 4 (.mv (.c (.d (.bool false))))])
  (.seq (.seq (.reg [.r 6 (.mv (.t 0)),
     .r 7 (.len (.t 6)),
     .r 8 (.mv (.t 1)),
     .r 9 (.len (.t 8)),
     .r 10 (.bin .neq (.t 7) (.t 9))])
  (.cond (.t 10)
    (.seq (.reg [.r 4 (.mv (.c (.d (.bool false))))])
    .ret)
    .skip))
  (.seq (.seq (.reg [.r 5 (.mv (.c (.d (.int .i64 0))))])
  c210)
  (.seq (.reg [.r 4 (.mv (.c (.d (.bool true))))])
  .ret))))
theorem k91 : fits Tryz.prog 28 Tryz.f28 c211 [.t 4] 2 = true := by kernel_rfl
def c212 : SC :=
  (.seq (.reg [.r 11 (.bin .lss (.t 10) (.t 9))])
  (.seq (.cond (.t 11)
    .skip
    (.exit 0))
  (.seq (.block 1 (.seq (.reg [.r 12 (.mv (.t 10)),
       .r 3 (.mv (.t 12))])
    (.seq (.reg [.r 13 (.mv (.t 0)),
       .r 14 (.mv (.t 3)),
       .c 15 (.f 101) [.t 13, .t 14],
       .r 4 (.mv (.t 15))])
    (.seq (.reg [.r 16 (.mv (.t 4)),
       .r 17 (.bin .neq (.t 16) (.c (.d (.int .i64 0))))])
    (.cond (.t 17)
      (.seq (.reg [.r 18 (.mv (.t 4)),
         .r 2 (.mv (.t 18))])
      .ret)
      .skip)))))
  (.reg [.r 19 (.bin .add (.t 10) (.c (.d (.int .i64 1)))),
     .r 10 (.mv (.t 19))]))))
def c213 : SC := .block 0 (.loop c212)
def c214 : SC :=
  (.seq (.reg [.r 2 (.mv (.c (.d (.int .i64 0))))])
  (.seq (.seq (.reg [.r 5 (.mv (.t 0)),
     .r 6 (.len (.t 5)),
     .r 7 (.bin .gtr (.t 6) (.c (.d (.int .i64 3000))))])
  (.cond (.t 7)
    (.seq (.reg [.r 2 (.mv (.c (.d (.int .i64 2))))])
    .ret)
    .skip))
  (.seq (.seq (.reg [.r 8 (.mv (.t 0)),
     .r 9 (.len (.t 8)),
     .r 10 (.mv (.c (.d (.int .i64 0))))])
  c213)
  (.seq (.reg [.r 2 (.mv (.c (.d (.int .i64 0))))])
  .ret))))
theorem k92 : fits Tryz.prog 65 Tryz.f65 c214 [.t 2] 1 = true := by kernel_rfl
set_option maxRecDepth 100000 in
set_option maxHeartbeats 40000000 in
noncomputable def w25 : (∀ (x0 : List T3) (x1 : List T3), {m : Option (Bool) // ∀ r, m = some r → PureSpec Tryz.prog 28 [.slice (List.map r7 x0), .slice (List.map r7 x1)] (.bool r)}) × (∀ (x0 : List T11), {m : Option (Int) // ∀ r, m = some r → PureSpec Tryz.prog 65 [.slice (List.map r15 x0)] (.int .i64 r)}) := by
  refine ⟨?g0, ?g1⟩
  case' g0 => (intro x0 x1; apply Subtype.mk; intro r hm; apply pure_walk Tryz.func28 k91; unfold c211)
  case' g1 => (intro x0; apply Subtype.mk; intro r hm; apply pure_walk Tryz.func65 k92; unfold c214)
  all_goals (repeat' (first | with_reducible refine W_seq ?_ | with_reducible refine W_reg ?_ | with_reducible refine W_regD ?_ | with_reducible refine W_block ?_ | with_reducible refine W_skip ?_ | with_reducible refine W_ret ?_ | with_reducible refine W_exit ?_ | with_reducible refine O_nil ?_ | with_reducible refine K_seq ?_ | with_reducible refine K_seqE ?_ | with_reducible refine K_seqR ?_ | with_reducible refine K_block ?_ | with_reducible refine K_blockR ?_ | with_reducible refine K_blockE ?_ | ((with_reducible apply K_blockN); decide) | ((with_reducible apply O_idxr hm); (iterate 2 (simp only [push_cast, seval]; rfl)); (intro _; rfl); intro e hm) | ((with_reducible apply O_idxVr hm); (iterate 3 (simp only [push_cast, seval]; rfl)); intro e hm) | ((with_reducible apply O_r); (simp only [push_cast, seval]; rfl); (first | exact trivial | omega)) | ((with_reducible apply O_ldV1r hm); (iterate 2 (simp only [push_cast, seval]; rfl)); (intro _; rfl); intro e hm) | ((with_reducible apply O_strr hm); (iterate 2 (simp only [push_cast, seval]; rfl)); intro hm) | ((with_reducible apply O_or hm); (simp only [push_cast, seval]; rfl); rfl; intro v hm; rotate_left; intro v g hm) | ((with_reducible apply W_condT); (focus (simp only [push_cast, seval]; done))) | ((with_reducible apply W_condF); (focus (simp only [push_cast, seval]; done))) | ((with_reducible apply O_cF hm); (simp only [push_cast, seval]; rfl); (first | apply s83 _ _ | apply s84 _ _); (any_goals ((repeat' (first | rfl | (with_reducible first | apply ft1 | apply ft3 | apply ft2 | apply ft11 | apply f_optN | apply f_optS | apply f_some | apply f_tup | apply f_agg | apply f_ptr | apply f_fn | apply dv_slice | apply sv_d | apply f_cons | apply fold_nil | apply fold_cons | apply fold_app | apply f_rowI | apply f_rowY | apply f_rowS | apply f_rowB | apply f_rowL) | (with_reducible apply f_byte; decide))); done)); intro x hm) | ((with_reducible apply S_condB hm); (simp only [push_cast, seval]; rfl); intro hm; rotate_left; intro hm) | ((with_reducible apply K_endS hm); (focus (simp only [resOf, resL, RV.get, push_cast, seval]; rfl)); (focus ((repeat' (first | rfl | (with_reducible first | apply ft1 | apply ft3 | apply ft2 | apply ft11 | apply f_optN | apply f_optS | apply f_some | apply f_tup | apply f_agg | apply f_ptr | apply f_fn | apply dv_slice | apply sv_d | apply f_cons | apply fold_nil | apply fold_cons | apply fold_app | apply f_rowI | apply f_rowY | apply f_rowS | apply f_rowB | apply f_rowL) | (with_reducible apply f_byte; decide))); done))) | ((with_reducible apply K_bool hm); (simp only [push_cast, seval]; rfl)) | ((with_reducible apply K_leave hm); intro r hm) | ((with_reducible apply K_leaveR hm); intro r hm) | ((apply S_loopY (b := 0) (X := c210) (x := c209) rfl (fun (c : SV × SV) (s : Int) => st [(0, c.1), (1, c.2), (5, .d (.int .i64 s))] []) (c := (_, _)) (s0 := _) hm); (focus (first | (dsimp only; done) | (dsimp only; rfl) | rfl)); (with_reducible refine Then.mk ?_ ?_)) | ((apply S_loopY (b := 0) (X := c213) (x := c212) rfl (fun (c : SV × SV) (s : Int) => st [(0, c.1), (9, c.2), (10, .d (.int .i64 s))] []) (c := (_, _)) (s0 := _) hm); (focus (first | (dsimp only; done) | (dsimp only; rfl) | rfl)); (with_reducible refine Then.mk ?_ ?_)) | ((apply K_next (s' := _) hm); (focus (first | (dsimp only; done) | (dsimp only; rfl) | rfl))) | ((apply K_brk (s' := _) hm); (focus (first | (dsimp only; done) | (dsimp only; rfl) | rfl))) | (((with_reducible apply K_brkN hm); (focus decide); intro r hm)) | (((with_reducible apply K_brkR hm); intro r hm)) | (((with_reducible apply LoopB.of); (focus (first | (dsimp only; done) | (dsimp only; rfl) | rfl)); (focus ((intro _; repeat' (first | with_reducible exact impC_end | with_reducible exact impC_endF | with_reducible refine impC_seq ?_ | with_reducible refine impC_block ?_ | ((with_reducible refine impC_rnd ?_); intro _) | ((with_reducible refine impC_brk ?_); intro _))))); (intro s o hm; first | unfold c209 | unfold c212); rotate_left; intro s hm)) | (((apply imp_stT; (repeat' (first | with_reducible exact keepT_nil | with_reducible exact keepC_nil | with_reducible apply keepT_cons | with_reducible apply keepC_cons | ((with_reducible apply svle_eq); (focus (first | (simp only [push_cast, seval]; rfl) | rfl)); (focus ((repeat' (first | rfl | (with_reducible first | apply ft1 | apply ft3 | apply ft2 | apply ft11 | apply f_optN | apply f_optS | apply f_some | apply f_tup | apply f_agg | apply f_ptr | apply f_fn | apply dv_slice | apply sv_d | apply f_cons | apply fold_nil | apply fold_cons | apply fold_app | apply f_rowI | apply f_rowY | apply f_rowS | apply f_rowB | apply f_rowL) | (with_reducible apply f_byte; decide))); done))) | ((with_reducible apply svle_td); (focus (first | (simp only [push_cast, seval]; rfl) | rfl)); (focus (first | (simp only [push_cast, seval]; rfl) | rfl)); (focus ((repeat' (first | rfl | (with_reducible first | apply ft1 | apply ft3 | apply ft2 | apply ft11 | apply f_optN | apply f_optS | apply f_some | apply f_tup | apply f_agg | apply f_ptr | apply f_fn | apply dv_slice | apply sv_d | apply f_cons | apply fold_nil | apply fold_cons | apply fold_app | apply f_rowI | apply f_rowY | apply f_rowS | apply f_rowB | apply f_rowL) | (with_reducible apply f_byte; decide))); done))) | ((with_reducible apply chle_eq); (focus (first | (simp only [push_cast, seval]; rfl) | rfl)); (first | with_reducible exact chle_rfl rfl | with_reducible exact chle_map0 | with_reducible apply chle_vec | with_reducible apply chle_box)) | (with_reducible first | apply ct1 | apply ct3 | apply ct2 | apply ct11 | apply r_shS | apply r_shI | apply r_rflO | apply r_oneO | apply r_appO | apply r_nilO | apply c_ownN | apply c_ownL | apply vc_rfl | apply vc_nil | apply vc_cons | apply r_rfl | apply r_rows | apply r_nil | apply r_app | apply r_cons | apply c_rowI | apply c_rowY | apply c_rowS | apply c_rowB | apply c_rowL))); done)))))
noncomputable def m89 (x0 : List T3) (x1 : List T3) : Option (Bool) := (w25.1 x0 x1).1
theorem s85 (x0 : List T3) (x1 : List T3) : ∀ r, m89 x0 x1 = some r → PureSpec Tryz.prog 28 [.slice (List.map r7 x0), .slice (List.map r7 x1)] (.bool r) := (w25.1 x0 x1).2
noncomputable def m90 (x0 : List T11) : Option (Int) := (w25.2 x0).1
theorem s86 (x0 : List T11) : ∀ r, m90 x0 = some r → PureSpec Tryz.prog 65 [.slice (List.map r15 x0)] (.int .i64 r) := (w25.2 x0).2
def c215 : SC :=
  (.seq (.reg [.r 50 (.bin .lss (.t 49) (.t 48))])
  (.seq (.cond (.t 50)
    .skip
    (.exit 2))
  (.seq (.block 3 (.seq (.reg [.r 51 (.mv (.t 49)),
       .r 52 (.idx 4 (.t 47) (.t 49)),
       .o 53 (.ldA 4 (.t 52)),
       .w 13 (.boxM (.c (.agg [.d (.str []), .d (.str []), .d (.str []), .nils]))),
       .r 12 (.mv (.t 51)),
       .w 0 (.st 4 (.t 13) (.t 53))])
    (.seq (.reg [.r 54 (.fld 2 (.t 3)),
       .o 55 (.ld1 (.t 54)),
       .r 56 (.mv (.t 9)),
       .r 57 (.idx 3 (.t 55) (.t 56)),
       .r 58 (.fld 2 (.t 57)),
       .o 59 (.ld1 (.t 58)),
       .r 60 (.mv (.t 12)),
       .r 61 (.idx 5 (.t 59) (.t 60)),
       .r 62 (.fld 1 (.t 61)),
       .o 63 (.ld1 (.t 62)),
       .r 64 (.bin .neq (.t 63) (.c (.d (.int .i64 3))))])
    (.cond (.t 64)
      (.seq (.reg [.r 65 (.fld 3 (.t 13)),
         .o 66 (.ld1 (.t 65)),
         .c 67 (.f 25) [.t 66],
         .r 68 (.fld 3 (.t 13)),
         .w 0 (.st 1 (.t 68) (.t 67))])
      (.reg [.r 69 (.fld 2 (.t 11)),
         .o 70 (.ld1 (.t 69)),
         .o 71 (.ldA 4 (.t 13)),
         .r 72 (.bslice 4 [.t 71]),
         .w 73 (.app 56 4 (.t 70) (.t 72)),
         .r 74 (.fld 2 (.t 11)),
         .w 0 (.st 1 (.t 74) (.t 73))]))
      .skip))))
  (.reg [.r 75 (.bin .add (.t 49) (.c (.d (.int .i64 1)))),
     .r 49 (.mv (.t 75))]))))
def c216 : SC := .block 2 (.loop c215)
def c217 : SC := (.reg [.r 86 (.fld 6 (.t 8)),
         .o 87 (.ld1 (.t 86)),
         .o 88 (.ldA 3 (.t 11)),
         .r 89 (.bslice 3 [.t 88]),
         .w 90 (.app 54 3 (.t 87) (.t 89)),
         .r 91 (.fld 6 (.t 8)),
         .w 0 (.st 1 (.t 91) (.t 90))])
def c218 : SC :=
  (.seq (.reg [.r 37 (.bin .lss (.t 36) (.t 35))])
  (.seq (.cond (.t 37)
    .skip
    (.exit 0))
  (.seq (.block 1 (.seq (.reg [.r 38 (.mv (.t 36)),
       .r 39 (.idx 3 (.t 34) (.t 36)),
       .o 40 (.ldA 3 (.t 39)),
       .w 10 (.boxM (.c (.agg [.d (.str []), .d (.str []), .nils]))),
       .r 9 (.mv (.t 38)),
       .w 0 (.st 3 (.t 10) (.t 40))])
    (.seq (.reg [.r 41 (.fld 0 (.t 10)),
       .o 42 (.ld1 (.t 41)),
       .r 43 (.fld 1 (.t 10)),
       .o 44 (.ld1 (.t 43)),
       .r 45 (.build [.d (.str []), .d (.str []), .nils] [(0, 1, .t 42), (1, 1, .t 44)]),
       .w 11 (.boxM (.c (.agg [.d (.str []), .d (.str []), .nils]))),
       .w 0 (.st 3 (.t 11) (.t 45))])
    (.seq (.seq (.reg [.r 46 (.fld 2 (.t 10)),
       .o 47 (.ld1 (.t 46)),
       .r 48 (.len (.t 47)),
       .r 49 (.mv (.c (.d (.int .i64 0))))])
    c216)
    (.seq (.reg (.r 76 (.fld 2 (.t 11)) :: .o 77 (.ld1 (.t 76)) :: .r 78 (.len (.t 77)) :: .r 79 (.bin .gtr (.t 78) (.c (.d (.int .i64 0)))) :: .r 80 (.mv (.t 79)) :: gapp [81, 82, 83, 84] 80 false (.r 81 (.fld 2 (.t 10)) :: .r 82 (.ld1 (.t 81)) :: .r 83 (.len (.t 82)) :: .r 84 (.bin .eql (.t 83) (.c (.d (.int .i64 0)))) :: []) (.r 85 (.pick (.t 80) (.c (.d (.bool true))) (.t 84)) :: [])))
    (.cond (.t 85)
      c217
      .skip))))))
  (.reg [.r 92 (.bin .add (.t 36) (.c (.d (.int .i64 1)))),
     .r 36 (.mv (.t 92))]))))
def c219 : SC := .block 0 (.loop c218)
def c220 : SC := (.reg [.o 93 (.ldA 7 (.t 8)),
     .w 0 (.st 7 (.t 4) (.t 93)),
     .r 5 (.mv (.c (.d (.int .i64 0))))])
def c221 : SC :=
  (.seq (.reg [.r 2 (.boxI (.t 0)),
     .r 3 (.boxI (.t 1)),
     .w 4 (.boxM (.c (.agg [.d (.str []), .d (.str []), .d (.str []), .d (.int .i64 0), .d (.int .i64 0), .d (.bool false), .nils]))),
     .r 5 (.mv (.c (.d (.int .i64 0))))])
  (.seq (.seq (.reg [.o 14 (.ldA 7 (.t 2)),
     .c 15 (.f 14) [.t 14],
     .r 6 (.mv (.t 15))])
  (.seq (.reg [.r 16 (.mv (.t 6)),
     .r 17 (.bin .neq (.t 16) (.c (.d (.int .i64 0))))])
  (.cond (.t 17)
    (.seq (.reg [.r 18 (.build [.d (.str []), .d (.str []), .d (.str []), .d (.int .i64 0), .d (.int .i64 0), .d (.bool false), .nils] []),
       .r 19 (.mv (.t 6)),
       .w 0 (.st 7 (.t 4) (.t 18)),
       .r 5 (.mv (.t 19))])
    .ret)
    .skip)))
  (.seq (.seq (.reg [.o 20 (.ldA 3 (.t 3)),
     .c 21 (.f 23) [.t 20],
     .r 7 (.mv (.t 21))])
  (.seq (.reg [.r 22 (.mv (.t 7)),
     .r 23 (.bin .neq (.t 22) (.c (.d (.int .i64 0))))])
  (.cond (.t 23)
    (.seq (.reg [.r 24 (.build [.d (.str []), .d (.str []), .d (.str []), .d (.int .i64 0), .d (.int .i64 0), .d (.bool false), .nils] []),
       .r 25 (.mv (.t 7)),
       .w 0 (.st 7 (.t 4) (.t 24)),
       .r 5 (.mv (.t 25))])
    .ret)
    .skip)))
  (.seq (.seq (.reg [.o 26 (.ldA 7 (.t 2)),
     .o 27 (.ldA 3 (.t 3)),
     .c 28 (.f 24) [.t 26, .t 27],
     .r 29 (.not (.t 28))])
  (.cond (.t 29)
    (.seq (.reg [.r 30 (.build [.d (.str []), .d (.str []), .d (.str []), .d (.int .i64 0), .d (.int .i64 0), .d (.bool false), .nils] []),
       .w 0 (.st 7 (.t 4) (.t 30)),
       .r 5 (.mv (.c (.d (.int .i64 12))))])
    .ret)
    .skip))
  (.seq (.reg [.o 31 (.ldA 7 (.t 2)),
     .w 8 (.boxM (.c (.agg [.d (.str []), .d (.str []), .d (.str []), .d (.int .i64 0), .d (.int .i64 0), .d (.bool false), .nils]))),
     .w 0 (.st 7 (.t 8) (.t 31))])
  (.seq (.reg [.r 32 (.fld 6 (.t 8)),
     .w 0 (.st 1 (.t 32) (.c (.nils)))])
  (.seq (.seq (.reg [.r 33 (.fld 6 (.t 2)),
     .o 34 (.ld1 (.t 33)),
     .r 35 (.len (.t 34)),
     .r 36 (.mv (.c (.d (.int .i64 0))))])
  c219)
  (.seq c220
  .ret))))))))
theorem k93 : fits Tryz.prog 6 Tryz.f6 c221 [.cell 4 7, .t 5] 2 = true := by kernel_rfl
set_option maxRecDepth 100000 in
set_option maxHeartbeats 40000000 in
noncomputable def w26 : (∀ (x0 : T5) (x1 : T10), {m : Option (T5 × Int) // ∀ r, m = some r → PureSpec Tryz.prog 6 [.agg (r9 x0), .agg (r14 x1)] (.tup [.agg (r9 r.1), .int .i64 r.2])}) := by
  (intro x0 x1; apply Subtype.mk; intro r hm; apply pure_walk Tryz.func6 k93; unfold c221)
  repeat' (first | ((with_reducible apply W_openBs (id := 8) (cid := 1262) (off := 6) (n := 3) (e := 54)); (focus (simp only [push_cast, seval]; (try rfl); done)); (focus (simp only [push_cast, seval]; (try rfl); done)); (focus decide); (focus rfl); (focus (intro _; rfl)); (focus (simp only [push_cast, seval]; (try rfl); done))) | ((with_reducible apply W_nilB (id := 8) (cid := 1262) (off := 6) (n := 3) (e := 54)); (focus (simp only [push_cast, seval]; (try rfl); done)); (focus (simp only [push_cast, seval]; (try rfl); done)); (focus decide); (focus (simp only [push_cast, seval]; (try rfl); done))) | ((with_reducible apply W_openBs (id := 11) (cid := 1354) (off := 2) (n := 4) (e := 56)); (focus (simp only [push_cast, seval]; (try rfl); done)); (focus (simp only [push_cast, seval]; (try rfl); done)); (focus decide); (focus rfl); (focus (intro _; rfl)); (focus (simp only [push_cast, seval]; (try rfl); done))) | ((with_reducible apply W_nilB (id := 11) (cid := 1354) (off := 2) (n := 4) (e := 56)); (focus (simp only [push_cast, seval]; (try rfl); done)); (focus (simp only [push_cast, seval]; (try rfl); done)); (focus decide); (focus (simp only [push_cast, seval]; (try rfl); done))) | ((with_reducible apply W_moveBO (id := 8) (c := 8) (cid := 1262) (off := 6) (n := 3) (e := 54) (ms := [.sh, .sh, .sh])); (focus (simp only [push_cast, seval]; (try rfl); done)); (focus (simp only [push_cast, seval]; (try rfl); done)); (focus decide); (focus decide); (focus (simp only [push_cast, seval]; (try rfl); done)); (focus ((repeat' (first | (with_reducible first | apply ct1 | apply ct7 | apply ct4 | apply ct9 | apply ct5 | apply ct3 | apply ct8 | apply ct10 | apply ct2 | apply ct6 | apply bct1 | apply bct2 | apply r_shS | apply r_shI | apply r_rflO | apply r_oneO | apply r_appO | apply r_nilO | apply c_ownN | apply c_ownL | apply vc_rfl | apply vc_nil | apply vc_cons | apply r_rfl | apply r_rows | apply r_nil | apply r_app | apply r_cons | apply c_rowI | apply c_rowY | apply c_rowS | apply c_rowB | apply c_rowL | apply ot1 | apply ot2) | ((with_reducible apply svle_rfl); (focus ((repeat' (first | rfl | (with_reducible first | apply ft1 | apply ft7 | apply ft4 | apply ft9 | apply ft5 | apply ft3 | apply ft8 | apply ft10 | apply ft2 | apply ft6 | apply f_optN | apply f_optS | apply f_some | apply f_tup | apply f_agg | apply f_ptr | apply f_fn | apply dv_slice | apply sv_d | apply f_cons | apply fold_nil | apply fold_cons | apply fold_app | apply f_rowI | apply f_rowY | apply f_rowS | apply f_rowB | apply f_rowL) | (with_reducible apply f_byte; decide))); done))) | ((with_reducible apply cle_own); (focus rfl); (focus ((repeat' (first | rfl | (with_reducible first | apply ft1 | apply ft7 | apply ft4 | apply ft9 | apply ft5 | apply ft3 | apply ft8 | apply ft10 | apply ft2 | apply ft6 | apply f_optN | apply f_optS | apply f_some | apply f_tup | apply f_agg | apply f_ptr | apply f_fn | apply dv_slice | apply sv_d | apply f_cons | apply fold_nil | apply fold_cons | apply fold_app | apply f_rowI | apply f_rowY | apply f_rowS | apply f_rowB | apply f_rowL) | (with_reducible apply f_byte; decide))); done))) | ((with_reducible apply cle_nil); (focus rfl)))); done)); (focus rfl); (focus (intro _; rfl)); (focus (simp only [push_cast, seval]; (try rfl); done)); (focus (first | decide | (simp only [push_cast, seval]; (try rfl); done))); (focus (simp only [push_cast, seval]; (try rfl); done))) | ((with_reducible apply W_moveBO (id := 8) (c := 90) (cid := 1262) (off := 6) (n := 3) (e := 54) (ms := [.sh, .sh, .sh])); (focus (simp only [push_cast, seval]; (try rfl); done)); (focus (simp only [push_cast, seval]; (try rfl); done)); (focus decide); (focus decide); (focus (simp only [push_cast, seval]; (try rfl); done)); (focus ((repeat' (first | (with_reducible first | apply ct1 | apply ct7 | apply ct4 | apply ct9 | apply ct5 | apply ct3 | apply ct8 | apply ct10 | apply ct2 | apply ct6 | apply bct1 | apply bct2 | apply r_shS | apply r_shI | apply r_rflO | apply r_oneO | apply r_appO | apply r_nilO | apply c_ownN | apply c_ownL | apply vc_rfl | apply vc_nil | apply vc_cons | apply r_rfl | apply r_rows | apply r_nil | apply r_app | apply r_cons | apply c_rowI | apply c_rowY | apply c_rowS | apply c_rowB | apply c_rowL | apply ot1 | apply ot2) | ((with_reducible apply svle_rfl); (focus ((repeat' (first | rfl | (with_reducible first | apply ft1 | apply ft7 | apply ft4 | apply ft9 | apply ft5 | apply ft3 | apply ft8 | apply ft10 | apply ft2 | apply ft6 | apply f_optN | apply f_optS | apply f_some | apply f_tup | apply f_agg | apply f_ptr | apply f_fn | apply dv_slice | apply sv_d | apply f_cons | apply fold_nil | apply fold_cons | apply fold_app | apply f_rowI | apply f_rowY | apply f_rowS | apply f_rowB | apply f_rowL) | (with_reducible apply f_byte; decide))); done))) | ((with_reducible apply cle_own); (focus rfl); (focus ((repeat' (first | rfl | (with_reducible first | apply ft1 | apply ft7 | apply ft4 | apply ft9 | apply ft5 | apply ft3 | apply ft8 | apply ft10 | apply ft2 | apply ft6 | apply f_optN | apply f_optS | apply f_some | apply f_tup | apply f_agg | apply f_ptr | apply f_fn | apply dv_slice | apply sv_d | apply f_cons | apply fold_nil | apply fold_cons | apply fold_app | apply f_rowI | apply f_rowY | apply f_rowS | apply f_rowB | apply f_rowL) | (with_reducible apply f_byte; decide))); done))) | ((with_reducible apply cle_nil); (focus rfl)))); done)); (focus rfl); (focus (intro _; rfl)); (focus (simp only [push_cast, seval]; (try rfl); done)); (focus (first | decide | (simp only [push_cast, seval]; (try rfl); done))); (focus (simp only [push_cast, seval]; (try rfl); done))) | ((with_reducible apply W_moveBO (id := 11) (c := 73) (cid := 1354) (off := 2) (n := 4) (e := 56) (ms := [.sh, .sh, .sh, .sh])); (focus (simp only [push_cast, seval]; (try rfl); done)); (focus (simp only [push_cast, seval]; (try rfl); done)); (focus decide); (focus decide); (focus (simp only [push_cast, seval]; (try rfl); done)); (focus ((repeat' (first | (with_reducible first | apply ct1 | apply ct7 | apply ct4 | apply ct9 | apply ct5 | apply ct3 | apply ct8 | apply ct10 | apply ct2 | apply ct6 | apply bct1 | apply bct2 | apply r_shS | apply r_shI | apply r_rflO | apply r_oneO | apply r_appO | apply r_nilO | apply c_ownN | apply c_ownL | apply vc_rfl | apply vc_nil | apply vc_cons | apply r_rfl | apply r_rows | apply r_nil | apply r_app | apply r_cons | apply c_rowI | apply c_rowY | apply c_rowS | apply c_rowB | apply c_rowL | apply ot1 | apply ot2) | ((with_reducible apply svle_rfl); (focus ((repeat' (first | rfl | (with_reducible first | apply ft1 | apply ft7 | apply ft4 | apply ft9 | apply ft5 | apply ft3 | apply ft8 | apply ft10 | apply ft2 | apply ft6 | apply f_optN | apply f_optS | apply f_some | apply f_tup | apply f_agg | apply f_ptr | apply f_fn | apply dv_slice | apply sv_d | apply f_cons | apply fold_nil | apply fold_cons | apply fold_app | apply f_rowI | apply f_rowY | apply f_rowS | apply f_rowB | apply f_rowL) | (with_reducible apply f_byte; decide))); done))) | ((with_reducible apply cle_own); (focus rfl); (focus ((repeat' (first | rfl | (with_reducible first | apply ft1 | apply ft7 | apply ft4 | apply ft9 | apply ft5 | apply ft3 | apply ft8 | apply ft10 | apply ft2 | apply ft6 | apply f_optN | apply f_optS | apply f_some | apply f_tup | apply f_agg | apply f_ptr | apply f_fn | apply dv_slice | apply sv_d | apply f_cons | apply fold_nil | apply fold_cons | apply fold_app | apply f_rowI | apply f_rowY | apply f_rowS | apply f_rowB | apply f_rowL) | (with_reducible apply f_byte; decide))); done))) | ((with_reducible apply cle_nil); (focus rfl)))); done)); (focus rfl); (focus (intro _; rfl)); (focus (simp only [push_cast, seval]; (try rfl); done)); (focus (first | decide | (simp only [push_cast, seval]; (try rfl); done))); (focus (simp only [push_cast, seval]; (try rfl); done))) | ((apply W_frz (x := c217) (id := 1354)); (focus (simp only [push_cast, seval]; (try rfl); done)); (focus (simp only [push_cast, seval]; (try rfl); done)); unfold c217) | ((apply W_frz (x := c220) (id := 1262)); (focus (simp only [push_cast, seval]; (try rfl); done)); (focus (simp only [push_cast, seval]; (try rfl); done)); unfold c220) | with_reducible refine W_seq ?_ | with_reducible refine W_reg ?_ | with_reducible refine W_block ?_ | with_reducible refine W_skip ?_ | with_reducible refine W_ret ?_ | with_reducible refine W_exit ?_ | with_reducible refine O_nil ?_ | with_reducible refine K_seq ?_ | with_reducible refine K_seqE ?_ | with_reducible refine K_seqR ?_ | with_reducible refine K_block ?_ | with_reducible refine K_blockR ?_ | with_reducible refine K_blockE ?_ | ((with_reducible apply K_blockN); decide) | with_reducible refine O_o2r ?_ | ((with_reducible apply O_idxr hm); (iterate 2 (simp only [push_cast, seval]; rfl)); (intro _; rfl); intro e hm) | ((with_reducible apply O_idxVr hm); (iterate 3 (simp only [push_cast, seval]; rfl)); intro e hm) | ((with_reducible apply O_idxLr hm (row := r7)); (iterate 2 (simp only [push_cast, seval]; rfl)); (focus ((repeat' (first | rfl | (with_reducible first | apply ft1 | apply ft7 | apply ft4 | apply ft9 | apply ft5 | apply ft3 | apply ft8 | apply ft10 | apply ft2 | apply ft6 | apply f_optN | apply f_optS | apply f_some | apply f_tup | apply f_agg | apply f_ptr | apply f_fn | apply dv_slice | apply sv_d | apply f_cons | apply fold_nil | apply fold_cons | apply fold_app | apply f_rowI | apply f_rowY | apply f_rowS | apply f_rowB | apply f_rowL) | (with_reducible apply f_byte; decide))); done)); (simp only [push_cast, seval]; rfl); (intro _; rfl); intro e hm) | ((with_reducible apply O_idxLr hm (row := r8)); (iterate 2 (simp only [push_cast, seval]; rfl)); (focus ((repeat' (first | rfl | (with_reducible first | apply ft1 | apply ft7 | apply ft4 | apply ft9 | apply ft5 | apply ft3 | apply ft8 | apply ft10 | apply ft2 | apply ft6 | apply f_optN | apply f_optS | apply f_some | apply f_tup | apply f_agg | apply f_ptr | apply f_fn | apply dv_slice | apply sv_d | apply f_cons | apply fold_nil | apply fold_cons | apply fold_app | apply f_rowI | apply f_rowY | apply f_rowS | apply f_rowB | apply f_rowL) | (with_reducible apply f_byte; decide))); done)); (simp only [push_cast, seval]; rfl); (intro _; rfl); intro e hm) | ((with_reducible apply O_r); (simp only [push_cast, seval]; rfl); (first | exact trivial | omega)) | ((with_reducible apply O_ldV1r hm); (iterate 2 (simp only [push_cast, seval]; rfl)); (intro _; rfl); intro e hm) | ((with_reducible apply O_ldAVr hm); (iterate 2 (simp only [push_cast, seval]; rfl)); (intro _; rfl); intro e hm) | ((with_reducible apply O_strr hm); (iterate 2 (simp only [push_cast, seval]; rfl)); intro hm) | ((with_reducible apply O_or hm); (simp only [push_cast, seval]; rfl); rfl; intro v hm; rotate_left; intro v g hm) | ((with_reducible apply W_condT); (focus (simp only [push_cast, seval]; done))) | ((with_reducible apply W_condF); (focus (simp only [push_cast, seval]; done))) | ((with_reducible apply O_cF hm); (simp only [push_cast, seval]; rfl); (first | apply s40 _ | apply s69 _ | apply s82 _ _ | apply s16 _); (any_goals ((repeat' (first | rfl | (with_reducible first | apply ft1 | apply ft7 | apply ft4 | apply ft9 | apply ft5 | apply ft3 | apply ft8 | apply ft10 | apply ft2 | apply ft6 | apply f_optN | apply f_optS | apply f_some | apply f_tup | apply f_agg | apply f_ptr | apply f_fn | apply dv_slice | apply sv_d | apply f_cons | apply fold_nil | apply fold_cons | apply fold_app | apply f_rowI | apply f_rowY | apply f_rowS | apply f_rowB | apply f_rowL) | (with_reducible apply f_byte; decide))); done)); intro x hm) | ((with_reducible apply O_clS hm); (simp only [push_cast, seval]; rfl); (focus (first | exact s40 _ | exact s69 _ | exact s82 _ _ | exact s16 _)); (intro _; rfl); intro x hm) | ((with_reducible apply O_w); (simp only [push_cast, seval]; rfl); (first | exact trivial | omega)) | ((with_reducible apply O_appL hm (row := r7)); (iterate 5 (simp only [push_cast, seval]; rfl)); (focus ((repeat' (first | rfl | (with_reducible first | apply ft1 | apply ft7 | apply ft4 | apply ft9 | apply ft5 | apply ft3 | apply ft8 | apply ft10 | apply ft2 | apply ft6 | apply f_optN | apply f_optS | apply f_some | apply f_tup | apply f_agg | apply f_ptr | apply f_fn | apply dv_slice | apply sv_d | apply f_cons | apply fold_nil | apply fold_cons | apply fold_app | apply f_rowI | apply f_rowY | apply f_rowS | apply f_rowB | apply f_rowL) | (with_reducible apply f_byte; decide))); done)); (focus ((repeat' (first | rfl | (with_reducible first | apply ft1 | apply ft7 | apply ft4 | apply ft9 | apply ft5 | apply ft3 | apply ft8 | apply ft10 | apply ft2 | apply ft6 | apply f_optN | apply f_optS | apply f_some | apply f_tup | apply f_agg | apply f_ptr | apply f_fn | apply dv_slice | apply sv_d | apply f_cons | apply fold_nil | apply fold_cons | apply fold_app | apply f_rowI | apply f_rowY | apply f_rowS | apply f_rowB | apply f_rowL) | (with_reducible apply f_byte; decide))); done)); rfl; decide; (intro _; rfl); intro hm) | ((with_reducible apply O_appL hm (row := r8)); (iterate 5 (simp only [push_cast, seval]; rfl)); (focus ((repeat' (first | rfl | (with_reducible first | apply ft1 | apply ft7 | apply ft4 | apply ft9 | apply ft5 | apply ft3 | apply ft8 | apply ft10 | apply ft2 | apply ft6 | apply f_optN | apply f_optS | apply f_some | apply f_tup | apply f_agg | apply f_ptr | apply f_fn | apply dv_slice | apply sv_d | apply f_cons | apply fold_nil | apply fold_cons | apply fold_app | apply f_rowI | apply f_rowY | apply f_rowS | apply f_rowB | apply f_rowL) | (with_reducible apply f_byte; decide))); done)); (focus ((repeat' (first | rfl | (with_reducible first | apply ft1 | apply ft7 | apply ft4 | apply ft9 | apply ft5 | apply ft3 | apply ft8 | apply ft10 | apply ft2 | apply ft6 | apply f_optN | apply f_optS | apply f_some | apply f_tup | apply f_agg | apply f_ptr | apply f_fn | apply dv_slice | apply sv_d | apply f_cons | apply fold_nil | apply fold_cons | apply fold_app | apply f_rowI | apply f_rowY | apply f_rowS | apply f_rowB | apply f_rowL) | (with_reducible apply f_byte; decide))); done)); rfl; decide; (intro _; rfl); intro hm) | ((with_reducible apply O_appV hm); (iterate 4 (simp only [push_cast, seval]; rfl)); (focus ((repeat' (first | rfl | (with_reducible first | apply ft1 | apply ft7 | apply ft4 | apply ft9 | apply ft5 | apply ft3 | apply ft8 | apply ft10 | apply ft2 | apply ft6 | apply f_optN | apply f_optS | apply f_some | apply f_tup | apply f_agg | apply f_ptr | apply f_fn | apply dv_slice | apply sv_d | apply f_cons | apply fold_nil | apply fold_cons | apply fold_app | apply f_rowI | apply f_rowY | apply f_rowS | apply f_rowB | apply f_rowL) | (with_reducible apply f_byte; decide))); done)); decide; (intro _; rfl); intro hm) | ((with_reducible apply O_appN hm); (focus (simp only [push_cast, seval]; done)); (iterate 2 (simp only [push_cast, seval]; rfl)); (focus ((repeat' (first | rfl | (with_reducible first | apply ft1 | apply ft7 | apply ft4 | apply ft9 | apply ft5 | apply ft3 | apply ft8 | apply ft10 | apply ft2 | apply ft6 | apply f_optN | apply f_optS | apply f_some | apply f_tup | apply f_agg | apply f_ptr | apply f_fn | apply dv_slice | apply sv_d | apply f_cons | apply fold_nil | apply fold_cons | apply fold_app | apply f_rowI | apply f_rowY | apply f_rowS | apply f_rowB | apply f_rowL) | (with_reducible apply f_byte; decide))); done)); decide; (intro _; rfl); intro hm) | ((with_reducible apply O_stVA hm); (iterate 4 (simp only [push_cast, seval]; rfl)); (focus ((repeat' (first | rfl | (with_reducible first | apply ft1 | apply ft7 | apply ft4 | apply ft9 | apply ft5 | apply ft3 | apply ft8 | apply ft10 | apply ft2 | apply ft6 | apply f_optN | apply f_optS | apply f_some | apply f_tup | apply f_agg | apply f_ptr | apply f_fn | apply dv_slice | apply sv_d | apply f_cons | apply fold_nil | apply fold_cons | apply fold_app | apply f_rowI | apply f_rowY | apply f_rowS | apply f_rowB | apply f_rowL) | (with_reducible apply f_byte; decide))); done)); decide; (intro _; rfl); intro e hm) | ((with_reducible apply O_stV hm); (iterate 3 (simp only [push_cast, seval]; rfl)); rfl; (intro _; rfl); rfl; (focus (intro a; simp only [push_cast, seval]; rfl)); (focus (intro a; (repeat' (first | rfl | with_reducible apply et1 | with_reducible apply eT_Tapi_Flaw | with_reducible apply et4 | with_reducible apply et8 | with_reducible apply et5 | with_reducible apply et3 | with_reducible apply et7 | with_reducible apply et9 | with_reducible apply et2 | with_reducible apply et6)); done)); intro e hm) | ((with_reducible apply S_condB hm); (simp only [push_cast, seval]; rfl); intro hm; rotate_left; intro hm) | ((with_reducible apply K_end2 hm); (focus (simp only [resOf, resL, RV.get, push_cast, seval]; rfl)); (focus (first | (dsimp only; done) | (dsimp only; rfl) | rfl)); (focus ((repeat' (first | rfl | (with_reducible first | apply ft1 | apply ft7 | apply ft4 | apply ft9 | apply ft5 | apply ft3 | apply ft8 | apply ft10 | apply ft2 | apply ft6 | apply f_optN | apply f_optS | apply f_some | apply f_tup | apply f_agg | apply f_ptr | apply f_fn | apply dv_slice | apply sv_d | apply f_cons | apply fold_nil | apply fold_cons | apply fold_app | apply f_rowI | apply f_rowY | apply f_rowS | apply f_rowB | apply f_rowL) | (with_reducible apply f_byte; decide))); done))) | ((with_reducible apply K_bool hm); (simp only [push_cast, seval]; rfl)) | ((with_reducible apply K_leave hm); intro r hm) | ((with_reducible apply K_leaveR hm); intro r hm) | ((apply S_loopY (b := 2) (X := c216) (x := c215) rfl (fun (c : SV × Ch × SV × Ch × SV × SV × SV × SV × SV) (s : (List UInt8) × (List UInt8) × (List UInt8) × Int × Int × Bool × (List T4) × (List UInt8) × (List UInt8) × (List T3) × Int) => st [(3, c.1), (4, .ref 4 0), (8, .ref 8 0), (9, c.2.2.1), (10, .ref 10 0), (11, .ref 11 0), (34, c.2.2.2.2.1), (35, c.2.2.2.2.2.1), (36, c.2.2.2.2.2.2.1), (47, c.2.2.2.2.2.2.2.1), (48, c.2.2.2.2.2.2.2.2), (49, .d (.int .i64 s.2.2.2.2.2.2.2.2.2.2))] [(1262, .vec 54 3 (vrow r8 s.2.2.2.2.2.2.1)), (8, .box (bt2 s.1 s.2.1 s.2.2.1 s.2.2.2.1 s.2.2.2.2.1 s.2.2.2.2.2.1 1262)), (1354, .vec 56 4 (vrow r7 s.2.2.2.2.2.2.2.2.2.1)), (11, .box (bt1 s.2.2.2.2.2.2.2.1 s.2.2.2.2.2.2.2.2.1 1354)), (4, c.2.1), (10, c.2.2.2.1)]) (c := (_, _, _, _, _, _, _, _, _)) (s0 := (_, _, _, _, _, _, _, _, _, _, _)) hm); (focus (first | (dsimp only; done) | (dsimp only; rfl) | rfl)); (with_reducible refine Then.mk ?_ ?_)) | ((apply S_loopY (b := 0) (X := c219) (x := c218) rfl (fun (c : SV × Ch × SV × SV) (s : (List UInt8) × (List UInt8) × (List UInt8) × Int × Int × Bool × (List T4) × Int) => st [(3, c.1), (4, .ref 4 0), (8, .ref 8 0), (34, c.2.2.1), (35, c.2.2.2), (36, .d (.int .i64 s.2.2.2.2.2.2.2))] [(1262, .vec 54 3 (vrow r8 s.2.2.2.2.2.2.1)), (8, .box (bt2 s.1 s.2.1 s.2.2.1 s.2.2.2.1 s.2.2.2.2.1 s.2.2.2.2.2.1 1262)), (4, c.2.1)]) (c := (_, _, _, _)) (s0 := (_, _, _, _, _, _, _, _)) hm); (focus (first | (dsimp only; done) | (dsimp only; rfl) | rfl)); (with_reducible refine Then.mk ?_ ?_)) | ((apply K_next (s' := (_, _, _, _, _, _, _, _, _, _, _)) hm); (focus (first | (dsimp only; done) | (dsimp only; rfl) | rfl))) | ((apply K_brk (s' := (_, _, _, _, _, _, _, _, _, _, _)) hm); (focus (first | (dsimp only; done) | (dsimp only; rfl) | rfl))) | ((apply K_next (s' := (_, _, _, _, _, _, _, _)) hm); (focus (first | (dsimp only; done) | (dsimp only; rfl) | rfl))) | ((apply K_brk (s' := (_, _, _, _, _, _, _, _)) hm); (focus (first | (dsimp only; done) | (dsimp only; rfl) | rfl))) | (((with_reducible apply K_brkN hm); (focus decide); intro r hm)) | (((with_reducible apply K_brkR hm); intro r hm)) | (((with_reducible apply LoopB.of); (focus (first | (dsimp only; done) | (dsimp only; rfl) | rfl)); (focus ((intro _; repeat' (first | with_reducible exact impC_end | with_reducible exact impC_endF | with_reducible refine impC_seq ?_ | with_reducible refine impC_block ?_ | ((with_reducible refine impC_rnd ?_); intro _) | ((with_reducible refine impC_brk ?_); intro _))))); (intro s o hm; first | unfold c215 | unfold c218); rotate_left; intro s hm)) | (((with_reducible apply Imp.trans); (focus ((apply imp_openBs (id := 8) (cid := 1262) (off := 6) (n := 3) (e := 54)); (focus (simp only [push_cast, seval]; (try rfl); done)); (focus (simp only [push_cast, seval]; (try rfl); done)); (focus decide); (focus rfl); (focus (intro _; rfl)); (focus (simp only [push_cast, seval]; (try rfl); done)))))) | (((with_reducible apply Imp.trans); (focus ((apply imp_nilB (id := 8) (cid := 1262) (off := 6) (n := 3) (e := 54)); (focus (simp only [push_cast, seval]; (try rfl); done)); (focus (simp only [push_cast, seval]; (try rfl); done)); (focus decide); (focus (simp only [push_cast, seval]; (try rfl); done)))))) | (((with_reducible apply Imp.trans); (focus ((apply imp_openBs (id := 11) (cid := 1354) (off := 2) (n := 4) (e := 56)); (focus (simp only [push_cast, seval]; (try rfl); done)); (focus (simp only [push_cast, seval]; (try rfl); done)); (focus decide); (focus rfl); (focus (intro _; rfl)); (focus (simp only [push_cast, seval]; (try rfl); done)))))) | (((with_reducible apply Imp.trans); (focus ((apply imp_nilB (id := 11) (cid := 1354) (off := 2) (n := 4) (e := 56)); (focus (simp only [push_cast, seval]; (try rfl); done)); (focus (simp only [push_cast, seval]; (try rfl); done)); (focus decide); (focus (simp only [push_cast, seval]; (try rfl); done)))))) | (((apply imp_stT; (repeat' (first | with_reducible exact keepT_nil | with_reducible exact keepC_nil | with_reducible apply keepT_cons | with_reducible apply keepC_cons | ((with_reducible apply svle_eq); (focus (first | (simp only [push_cast, seval]; rfl) | rfl)); (focus ((repeat' (first | rfl | (with_reducible first | apply ft1 | apply ft7 | apply ft4 | apply ft9 | apply ft5 | apply ft3 | apply ft8 | apply ft10 | apply ft2 | apply ft6 | apply f_optN | apply f_optS | apply f_some | apply f_tup | apply f_agg | apply f_ptr | apply f_fn | apply dv_slice | apply sv_d | apply f_cons | apply fold_nil | apply fold_cons | apply fold_app | apply f_rowI | apply f_rowY | apply f_rowS | apply f_rowB | apply f_rowL) | (with_reducible apply f_byte; decide))); done))) | ((with_reducible apply svle_td); (focus (first | (simp only [push_cast, seval]; rfl) | rfl)); (focus (first | (simp only [push_cast, seval]; rfl) | rfl)); (focus ((repeat' (first | rfl | (with_reducible first | apply ft1 | apply ft7 | apply ft4 | apply ft9 | apply ft5 | apply ft3 | apply ft8 | apply ft10 | apply ft2 | apply ft6 | apply f_optN | apply f_optS | apply f_some | apply f_tup | apply f_agg | apply f_ptr | apply f_fn | apply dv_slice | apply sv_d | apply f_cons | apply fold_nil | apply fold_cons | apply fold_app | apply f_rowI | apply f_rowY | apply f_rowS | apply f_rowB | apply f_rowL) | (with_reducible apply f_byte; decide))); done))) | ((with_reducible apply chle_eq); (focus (first | (simp only [push_cast, seval]; rfl) | rfl)); (first | with_reducible exact chle_rfl rfl | with_reducible exact chle_map0 | with_reducible apply chle_vec | with_reducible apply chle_box)) | (with_reducible first | apply ct1 | apply ct7 | apply ct4 | apply ct9 | apply ct5 | apply ct3 | apply ct8 | apply ct10 | apply ct2 | apply ct6 | apply bct1 | apply bct2 | apply r_shS | apply r_shI | apply r_rflO | apply r_oneO | apply r_appO | apply r_nilO | apply c_ownN | apply c_ownL | apply vc_rfl | apply vc_nil | apply vc_cons | apply r_rfl | apply r_rows | apply r_nil | apply r_app | apply r_cons | apply c_rowI | apply c_rowY | apply c_rowS | apply c_rowB | apply c_rowL))); done))))
noncomputable def m91 (x0 : T5) (x1 : T10) : Option (T5 × Int) := (w26 x0 x1).1
theorem s87 (x0 : T5) (x1 : T10) : ∀ r, m91 x0 x1 = some r → PureSpec Tryz.prog 6 [.agg (r9 x0), .agg (r14 x1)] (.tup [.agg (r9 r.1), .int .i64 r.2]) := (w26 x0 x1).2
def c222 : SC :=
  (.seq (.seq (.reg [.r 57 (.mv (.t 5)),
     .r 58 (.fld 6 (.t 2)),
     .o 59 (.ld1 (.t 58)),
     .r 60 (.len (.t 59)),
     .r 61 (.bin .lss (.t 57) (.t 60))])
  (.cond (.t 61)
    .skip
    (.exit 0)))
  (.seq (.block 1 (.seq (.regV [0, 1, 2, 3, 4, 5, 6, 7, 8, 9, 11, 10, 12, 13] [.r 64 (.fld 6 (.t 2)), .r 65 (.ld1 (.t 64)), .r 66 (.mv (.t 5)), .r 67 (.idx 3 (.t 65) (.t 66)), .r 68 (.ldA 3 (.t 67)), .r 69 (.fld 6 (.t 3)), .r 70 (.ld1 (.t 69)), .r 71 (.mv (.t 5)), .r 72 (.idx 3 (.t 70) (.t 71)), .r 73 (.ldA 3 (.t 72))] 6 (.c (.agg [.d (.str []), .d (.str []), .nils])) [(0, 64, .fld 6 (.t 2)), (1, 65, .ld1 (.t 64)), (2, 66, .mv (.t 5)), (3, 67, .idx 3 (.t 65) (.t 66)), (4, 68, .ldA 3 (.t 67)), (5, 69, .fld 6 (.t 3)), (6, 70, .ld1 (.t 69)), (7, 71, .mv (.t 5)), (8, 72, .idx 3 (.t 70) (.t 71)), (9, 73, .ldA 3 (.t 72))] 7 (.c (.agg [.d (.str []), .d (.str []), .nils])) [(0, 64, .fld 6 (.t 2)), (1, 65, .ld1 (.t 64)), (2, 66, .mv (.t 5)), (3, 67, .idx 3 (.t 65) (.t 66)), (4, 68, .ldA 3 (.t 67)), (5, 69, .fld 6 (.t 3)), (6, 70, .ld1 (.t 69)), (7, 71, .mv (.t 5)), (8, 72, .idx 3 (.t 70) (.t 71)), (9, 73, .ldA 3 (.t 72))] [.x 0 (.st 3 (.t 6) (.t 68)) [(5, 69, .fld 6 (.t 3)), (6, 70, .ld1 (.t 69)), (7, 71, .mv (.t 5)), (8, 72, .idx 3 (.t 70) (.t 71)), (9, 73, .ldA 3 (.t 72))], .x 0 (.st 3 (.t 7) (.t 73)) []])
    (.seq (.reg (.r 74 (.fld 0 (.t 6)) :: .o 75 (.ld1 (.t 74)) :: .r 76 (.fld 0 (.t 7)) :: .o 77 (.ld1 (.t 76)) :: .r 78 (.bin .neq (.t 75) (.t 77)) :: .r 79 (.mv (.t 78)) :: gapp [80, 81, 82, 83, 84] 79 false (.r 80 (.fld 1 (.t 6)) :: .r 81 (.ld1 (.t 80)) :: .r 82 (.fld 1 (.t 7)) :: .r 83 (.ld1 (.t 82)) :: .r 84 (.bin .neq (.t 81) (.t 83)) :: []) (.r 85 (.pick (.t 79) (.c (.d (.bool true))) (.t 84)) :: .r 86 (.mv (.t 85)) :: gapp [87, 88, 89, 90, 91, 92] 86 false (.r 87 (.fld 2 (.t 6)) :: .r 88 (.ld1 (.t 87)) :: .r 89 (.fld 2 (.t 7)) :: .r 90 (.ld1 (.t 89)) :: .c 91 (.f 28) [.t 88, .t 90] :: .r 92 (.not (.t 91)) :: []) (.r 93 (.pick (.t 86) (.c (.d (.bool true))) (.t 92)) :: []))))
    (.cond (.t 93)
      (.seq (.reg [.r 4 (.mv (.c (.d (.bool false))))])
      .ret)
      .skip))))
  (.reg [.r 62 (.mv (.t 5)),
     .r 63 (.bin .add (.t 62) (.c (.d (.int .i64 1)))),
     .r 5 (.mv (.t 63))])))
def c223 : SC := .block 0 (.loop c222)
def c224 : SC :=
  (.seq (.reg [.r 2 (.boxI (.t 0)),
     .r 3 (.boxI (.t 1)),
     .r 4 (.mv (.c (.d (.bool false))))])
  (.seq (.seq (.reg (.r 8 (.fld 0 (.t 2)) :: .o 9 (.ld1 (.t 8)) :: .r 10 (.fld 0 (.t 3)) :: .o 11 (.ld1 (.t 10)) :: .r 12 (.bin .neq (.t 9) (.t 11)) :: .r 13 (.mv (.t 12)) :: gapp [14, 15, 16, 17, 18] 13 false (.r 14 (.fld 1 (.t 2)) :: .r 15 (.ld1 (.t 14)) :: .r 16 (.fld 1 (.t 3)) :: .r 17 (.ld1 (.t 16)) :: .r 18 (.bin .neq (.t 15) (.t 17)) :: []) (.r 19 (.pick (.t 13) (.c (.d (.bool true))) (.t 18)) :: .r 20 (.mv (.t 19)) :: gapp [21, 22, 23, 24, 25] 20 false (.r 21 (.fld 2 (.t 2)) :: .r 22 (.ld1 (.t 21)) :: .r 23 (.fld 2 (.t 3)) :: .r 24 (.ld1 (.t 23)) :: .r 25 (.bin .neq (.t 22) (.t 24)) :: []) (.r 26 (.pick (.t 20) (.c (.d (.bool true))) (.t 25)) :: .r 27 (.mv (.t 26)) :: gapp [28, 29, 30, 31, 32] 27 false (.r 28 (.fld 3 (.t 2)) :: .r 29 (.ld1 (.t 28)) :: .r 30 (.fld 3 (.t 3)) :: .r 31 (.ld1 (.t 30)) :: .r 32 (.bin .neq (.t 29) (.t 31)) :: []) (.r 33 (.pick (.t 27) (.c (.d (.bool true))) (.t 32)) :: .r 34 (.mv (.t 33)) :: gapp [35, 36, 37, 38, 39] 34 false (.r 35 (.fld 4 (.t 2)) :: .r 36 (.ld1 (.t 35)) :: .r 37 (.fld 4 (.t 3)) :: .r 38 (.ld1 (.t 37)) :: .r 39 (.bin .neq (.t 36) (.t 38)) :: []) (.r 40 (.pick (.t 34) (.c (.d (.bool true))) (.t 39)) :: .r 41 (.mv (.t 40)) :: gapp [42, 43, 44, 45, 46] 41 false (.r 42 (.fld 5 (.t 2)) :: .r 43 (.ld1 (.t 42)) :: .r 44 (.fld 5 (.t 3)) :: .r 45 (.ld1 (.t 44)) :: .r 46 (.binB .neq (.t 43) (.t 45)) :: []) (.r 47 (.pick (.t 41) (.c (.d (.bool true))) (.t 46)) :: .r 48 (.mv (.t 47)) :: gapp [49, 50, 51, 52, 53, 54, 55] 48 false (.r 49 (.fld 6 (.t 2)) :: .r 50 (.ld1 (.t 49)) :: .r 51 (.len (.t 50)) :: .r 52 (.fld 6 (.t 3)) :: .r 53 (.ld1 (.t 52)) :: .r 54 (.len (.t 53)) :: .r 55 (.bin .neq (.t 51) (.t 54)) :: []) (.r 56 (.pick (.t 48) (.c (.d (.bool true))) (.t 55)) :: []))))))))
  (.cond (.t 56)
    (.seq (.reg [.r 4 (.mv (.c (.d (.bool false))))])
    .ret)
    .skip))
  (.seq (.seq (.reg [.r 5 (.mv (.c (.d (.int .i64 0))))])
  c223)
  (.seq (.reg [.r 4 (.mv (.c (.d (.bool true))))])
  .ret))))
theorem k94 : fits Tryz.prog 8 Tryz.f8 c224 [.t 4] 2 = true := by kernel_rfl
def c225 : SC :=
  (.seq (.reg [.r 26 (.bin .lss (.t 25) (.t 24))])
  (.seq (.cond (.t 26)
    .skip
    (.exit 0))
  (.seq (.block 1 (.seq (.reg [.r 27 (.idx 5 (.t 23) (.t 25)),
       .o 28 (.ldA 5 (.t 27)),
       .w 9 (.boxM (.c (.agg [.d (.str []), .d (.int .i64 0), .d (.int .i64 0), .d (.int .i64 0), .d (.int .i64 0)]))),
       .w 0 (.st 5 (.t 9) (.t 28))])
    (.seq (.seq (.reg [.o 29 (.ldA 5 (.t 9)),
       .r 30 (.mv (.t 1)),
       .c 31 (.f 68) [.t 29, .t 30]])
    (.block 2 (.seq (.reg [.r 33 (.bin .eql (.t 31) (.c (.d (.int .i64 1)))),
         .r 32 (.mv (.t 33))])
      (.cond (.t 32)
        (.reg [.r 34 (.fld 0 (.t 7)),
           .o 35 (.ld1 (.t 34)),
           .r 36 (.bin .add (.t 35) (.c (.d (.int .i64 1)))),
           .r 37 (.fld 0 (.t 7)),
           .w 0 (.st 1 (.t 37) (.t 36))])
        (.seq (.reg [.r 39 (.bin .eql (.t 31) (.c (.d (.int .i64 2)))),
           .r 38 (.mv (.t 39))])
        (.cond (.t 38)
          (.reg [.r 40 (.fld 1 (.t 7)),
             .o 41 (.ld1 (.t 40)),
             .r 42 (.bin .add (.t 41) (.c (.d (.int .i64 1)))),
             .r 43 (.fld 1 (.t 7)),
             .w 0 (.st 1 (.t 43) (.t 42))])
          .skip))))))
    (.seq (.seq (.reg [.r 44 (.fld 4 (.t 9)),
       .o 45 (.ld1 (.t 44))])
    (.block 3 (.seq (.reg [.r 47 (.bin .eql (.t 45) (.c (.d (.int .i64 1)))),
         .r 46 (.mv (.t 47))])
      (.cond (.t 46)
        (.reg [.r 48 (.fld 2 (.t 7)),
           .o 49 (.ld1 (.t 48)),
           .r 50 (.bin .add (.t 49) (.c (.d (.int .i64 1)))),
           .r 51 (.fld 2 (.t 7)),
           .w 0 (.st 1 (.t 51) (.t 50))])
        (.seq (.reg [.r 53 (.bin .eql (.t 45) (.c (.d (.int .i64 2)))),
           .r 52 (.mv (.t 53))])
        (.cond (.t 52)
          (.reg [.r 54 (.fld 3 (.t 7)),
             .o 55 (.ld1 (.t 54)),
             .r 56 (.bin .add (.t 55) (.c (.d (.int .i64 1)))),
             .r 57 (.fld 3 (.t 7)),
             .w 0 (.st 1 (.t 57) (.t 56))])
          (.seq (.reg [.r 59 (.bin .eql (.t 45) (.c (.d (.int .i64 3)))),
             .r 58 (.mv (.t 59))])
          (.cond (.t 58)
            (.reg [.r 60 (.fld 4 (.t 7)),
               .o 61 (.ld1 (.t 60)),
               .r 62 (.bin .add (.t 61) (.c (.d (.int .i64 1)))),
               .r 63 (.fld 4 (.t 7)),
               .w 0 (.st 1 (.t 63) (.t 62))])
            .skip))))))))
    (.seq (.reg [.r 64 (.fld 3 (.t 9)),
       .o 65 (.ld1 (.t 64)),
       .r 66 (.fld 2 (.t 9)),
       .o 67 (.ld1 (.t 66)),
       .r 68 (.bin .gtr (.t 65) (.t 67))])
    (.cond (.t 68)
      (.reg [.r 69 (.fld 5 (.t 7)),
         .o 70 (.ld1 (.t 69)),
         .r 71 (.bin .add (.t 70) (.c (.d (.int .i64 1)))),
         .r 72 (.fld 5 (.t 7)),
         .w 0 (.st 1 (.t 72) (.t 71))])
      .skip))))))
  (.reg [.r 73 (.bin .add (.t 25) (.c (.d (.int .i64 1)))),
     .r 25 (.mv (.t 73))]))))
def c226 : SC := .block 0 (.loop c225)
def c227 : SC :=
  (.seq (.reg [.w 4 (.boxM (.c (.agg [.d (.int .i64 0), .d (.int .i64 0), .d (.int .i64 0), .d (.int .i64 0), .d (.int .i64 0), .d (.int .i64 0)]))),
     .r 5 (.mv (.c (.d (.int .i64 0))))])
  (.seq (.seq (.reg [.r 10 (.mv (.t 0)),
     .c 11 (.f 65) [.t 10],
     .r 6 (.mv (.t 11))])
  (.seq (.reg [.r 12 (.mv (.t 6)),
     .r 13 (.bin .neq (.t 12) (.c (.d (.int .i64 0))))])
  (.cond (.t 13)
    (.seq (.reg [.r 14 (.build [.d (.int .i64 0), .d (.int .i64 0), .d (.int .i64 0), .d (.int .i64 0), .d (.int .i64 0), .d (.int .i64 0)] []),
       .r 15 (.mv (.t 6)),
       .w 0 (.st 6 (.t 4) (.t 14)),
       .r 5 (.mv (.t 15))])
    .ret)
    .skip)))
  (.seq (.seq (.reg [.r 16 (.mv (.t 1)),
     .c 17 (.f 66) [.t 16],
     .r 18 (.not (.t 17))])
  (.cond (.t 18)
    (.seq (.reg [.r 19 (.build [.d (.int .i64 0), .d (.int .i64 0), .d (.int .i64 0), .d (.int .i64 0), .d (.int .i64 0), .d (.int .i64 0)] []),
       .w 0 (.st 6 (.t 4) (.t 19)),
       .r 5 (.mv (.c (.d (.int .i64 1))))])
    .ret)
    .skip))
  (.seq (.reg [.r 20 (.build [.d (.int .i64 0), .d (.int .i64 0), .d (.int .i64 0), .d (.int .i64 0), .d (.int .i64 0), .d (.int .i64 0)] []),
     .w 7 (.boxM (.c (.agg [.d (.int .i64 0), .d (.int .i64 0), .d (.int .i64 0), .d (.int .i64 0), .d (.int .i64 0), .d (.int .i64 0)]))),
     .w 0 (.st 6 (.t 7) (.t 20))])
  (.seq (.seq (.reg [.r 21 (.mv (.t 0)),
     .r 22 (.mv (.t 1)),
     .c 23 (.f 67) [.t 21, .t 22],
     .r 24 (.len (.t 23)),
     .r 25 (.mv (.c (.d (.int .i64 0))))])
  c226)
  (.seq (.reg [.o 74 (.ldA 6 (.t 7)),
     .w 0 (.st 6 (.t 4) (.t 74)),
     .r 5 (.mv (.c (.d (.int .i64 0))))])
  .ret))))))
theorem k95 : fits Tryz.prog 29 Tryz.f29 c227 [.cell 4 6, .t 5] 2 = true := by kernel_rfl
set_option maxRecDepth 100000 in
set_option maxHeartbeats 40000000 in
noncomputable def w27 : (∀ (x0 : T5) (x1 : T5), {m : Option (Bool) // ∀ r, m = some r → PureSpec Tryz.prog 8 [.agg (r9 x0), .agg (r9 x1)] (.bool r)}) × (∀ (x0 : List T11) (x1 : Int), {m : Option (T13 × Int) // ∀ r, m = some r → PureSpec Tryz.prog 29 [.slice (List.map r15 x0), .int .i64 x1] (.tup [.agg (r17 r.1), .int .i64 r.2])}) := by
  refine ⟨?g0, ?g1⟩
  case' g0 => (intro x0 x1; apply Subtype.mk; intro r hm; apply pure_walk Tryz.func8 k94; unfold c224)
  case' g1 => (intro x0 x1; apply Subtype.mk; intro r hm; apply pure_walk Tryz.func29 k95; unfold c227)
  all_goals (repeat' (first | with_reducible refine W_seq ?_ | with_reducible refine W_reg ?_ | with_reducible refine W_regV ?_ | with_reducible refine W_block ?_ | with_reducible refine W_skip ?_ | with_reducible refine W_ret ?_ | with_reducible refine W_exit ?_ | with_reducible refine O_nil ?_ | with_reducible refine K_seq ?_ | with_reducible refine K_seqE ?_ | with_reducible refine K_seqR ?_ | with_reducible refine K_block ?_ | with_reducible refine K_blockR ?_ | with_reducible refine K_blockE ?_ | ((with_reducible apply K_blockN); decide) | with_reducible refine O_o2r ?_ | ((with_reducible apply O_idxrE hm); (iterate 2 (simp only [push_cast, seval]; rfl)); (intro _; rfl); intro e he hm) | ((with_reducible apply O_idxVr hm); (iterate 3 (simp only [push_cast, seval]; rfl)); intro e hm) | ((with_reducible apply O_r); (simp only [push_cast, seval]; rfl); (first | exact trivial | omega)) | ((with_reducible apply O_ldV1r hm); (iterate 2 (simp only [push_cast, seval]; rfl)); (intro _; rfl); intro e hm) | ((with_reducible apply O_ldAVr hm); (iterate 2 (simp only [push_cast, seval]; rfl)); (intro _; rfl); intro e hm) | ((with_reducible apply O_strr hm); (iterate 2 (simp only [push_cast, seval]; rfl)); intro hm) | ((with_reducible apply O_or hm); (simp only [push_cast, seval]; rfl); rfl; intro v hm; rotate_left; intro v g hm) | ((with_reducible apply W_condT); (focus (simp only [push_cast, seval]; done))) | ((with_reducible apply W_condF); (focus (simp only [push_cast, seval]; done))) | ((with_reducible apply O_cF hm); (simp only [push_cast, seval]; rfl); (first | apply s85 _ _ | apply s86 _ | apply s79 _ | apply s80 _ _ | apply s75 _ _); (any_goals ((repeat' (first | rfl | (with_reducible first | apply ft1 | apply ft4 | apply ft5 | apply ft3 | apply ft2 | apply ft11 | apply ft12 | apply ft13 | apply f_optN | apply f_optS | apply f_some | apply f_tup | apply f_agg | apply f_ptr | apply f_fn | apply dv_slice | apply sv_d | apply f_cons | apply fold_nil | apply fold_cons | apply fold_app | apply f_rowI | apply f_rowY | apply f_rowS | apply f_rowB | apply f_rowL) | (with_reducible apply f_byte; decide))); done)); intro x hm) | ((with_reducible apply K_pair); (iterate 2 rfl); decide; (iterate 4 rfl); (focus ((repeat' (first | exact Rer_nil | ((with_reducible apply Rer_idx); (focus (simp only [push_cast, seval]; rfl)); (focus (simp only [push_cast, seval]; rfl)); rotate_left 2; (focus (first | (simp only [push_cast, seval]; rfl) | (simp only [push_cast, seval]; done))); rotate_left; (focus assumption); (focus (intro _; rfl))) | ((with_reducible apply Rer_cons); (focus (simp only [push_cast, seval]; rfl)); (focus (first | exact trivial | omega)); (focus (simp only [push_cast, seval]))))); done)); (focus ((repeat' (first | exact Rer_nil | ((with_reducible apply Rer_idx); (focus (simp only [push_cast, seval]; rfl)); (focus (simp only [push_cast, seval]; rfl)); rotate_left 2; (focus (first | (simp only [push_cast, seval]; rfl) | (simp only [push_cast, seval]; done))); rotate_left; (focus assumption); (focus (intro _; rfl))) | ((with_reducible apply Rer_cons); (focus (simp only [push_cast, seval]; rfl)); (focus (first | exact trivial | omega)); (focus (simp only [push_cast, seval]))))); done)); (focus ((repeat' (first | exact Rer_nil | ((with_reducible apply Rer_idx); (focus (simp only [push_cast, seval]; rfl)); (focus (simp only [push_cast, seval]; rfl)); rotate_left 2; (focus (first | (simp only [push_cast, seval]; rfl) | (simp only [push_cast, seval]; done))); rotate_left; (focus assumption); (focus (intro _; rfl))) | ((with_reducible apply Rer_cons); (focus (simp only [push_cast, seval]; rfl)); (focus (first | exact trivial | omega)); (focus (simp only [push_cast, seval]))))); done)); (focus ((repeat' (first | exact Rer_nil | ((with_reducible apply Rer_idx); (focus (simp only [push_cast, seval]; rfl)); (focus (simp only [push_cast, seval]; rfl)); rotate_left 2; (focus (first | (simp only [push_cast, seval]; rfl) | (simp only [push_cast, seval]; done))); rotate_left; (focus assumption); (focus (intro _; rfl))) | ((with_reducible apply Rer_cons); (focus (simp only [push_cast, seval]; rfl)); (focus (first | exact trivial | omega)); (focus (simp only [push_cast, seval]))))); done))) | ((with_reducible apply O_w); (simp only [push_cast, seval]; rfl); (first | exact trivial | omega)) | ((with_reducible apply O_stVA hm); (iterate 4 (simp only [push_cast, seval]; rfl)); (focus ((repeat' (first | rfl | (with_reducible first | apply ft1 | apply ft4 | apply ft5 | apply ft3 | apply ft2 | apply ft11 | apply ft12 | apply ft13 | apply f_optN | apply f_optS | apply f_some | apply f_tup | apply f_agg | apply f_ptr | apply f_fn | apply dv_slice | apply sv_d | apply f_cons | apply fold_nil | apply fold_cons | apply fold_app | apply f_rowI | apply f_rowY | apply f_rowS | apply f_rowB | apply f_rowL) | (with_reducible apply f_byte; decide))); done)); decide; (intro _; rfl); intro e hm) | ((with_reducible apply O_stVAX hm); (iterate 3 (simp only [push_cast, seval]; rfl)); (focus ((repeat' (first | rfl | (with_reducible first | apply ft1 | apply ft4 | apply ft5 | apply ft3 | apply ft2 | apply ft11 | apply ft12 | apply ft13 | apply f_optN | apply f_optS | apply f_some | apply f_tup | apply f_agg | apply f_ptr | apply f_fn | apply dv_slice | apply sv_d | apply f_cons | apply fold_nil | apply fold_cons | apply fold_app | apply f_rowI | apply f_rowY | apply f_rowS | apply f_rowB | apply f_rowL) | (with_reducible apply f_byte; decide))); done)); (intro _; rfl); (focus ((repeat' (first | exact Rer_nil | ((with_reducible apply Rer_idx); (focus (simp only [push_cast, seval]; rfl)); (focus (simp only [push_cast, seval]; rfl)); rotate_left 2; (focus (first | (simp only [push_cast, seval]; rfl) | (simp only [push_cast, seval]; done))); rotate_left; (focus assumption); (focus (intro _; rfl))) | ((with_reducible apply Rer_cons); (focus (simp only [push_cast, seval]; rfl)); (focus (first | exact trivial | omega)); (focus (simp only [push_cast, seval]))))); done)); intro e hm) | ((with_reducible apply O_x); (simp only [push_cast, seval]; rfl); (first | exact trivial | omega); (focus ((repeat' (first | exact Rer_nil | ((with_reducible apply Rer_idx); (focus (simp only [push_cast, seval]; rfl)); (focus (simp only [push_cast, seval]; rfl)); rotate_left 2; (focus (first | (simp only [push_cast, seval]; rfl) | (simp only [push_cast, seval]; done))); rotate_left; (focus assumption); (focus (intro _; rfl))) | ((with_reducible apply Rer_cons); (focus (simp only [push_cast, seval]; rfl)); (focus (first | exact trivial | omega)); (focus (simp only [push_cast, seval]))))); done))) | ((with_reducible apply S_condB hm); (simp only [push_cast, seval]; rfl); intro hm; rotate_left; intro hm) | ((with_reducible apply K_end2 hm); (focus (simp only [resOf, resL, RV.get, push_cast, seval]; rfl)); (focus (first | (dsimp only; done) | (dsimp only; rfl) | rfl)); (focus ((repeat' (first | rfl | (with_reducible first | apply ft1 | apply ft4 | apply ft5 | apply ft3 | apply ft2 | apply ft11 | apply ft12 | apply ft13 | apply f_optN | apply f_optS | apply f_some | apply f_tup | apply f_agg | apply f_ptr | apply f_fn | apply dv_slice | apply sv_d | apply f_cons | apply fold_nil | apply fold_cons | apply fold_app | apply f_rowI | apply f_rowY | apply f_rowS | apply f_rowB | apply f_rowL) | (with_reducible apply f_byte; decide))); done))) | ((with_reducible apply K_endS hm); (focus (simp only [resOf, resL, RV.get, push_cast, seval]; rfl)); (focus ((repeat' (first | rfl | (with_reducible first | apply ft1 | apply ft4 | apply ft5 | apply ft3 | apply ft2 | apply ft11 | apply ft12 | apply ft13 | apply f_optN | apply f_optS | apply f_some | apply f_tup | apply f_agg | apply f_ptr | apply f_fn | apply dv_slice | apply sv_d | apply f_cons | apply fold_nil | apply fold_cons | apply fold_app | apply f_rowI | apply f_rowY | apply f_rowS | apply f_rowB | apply f_rowL) | (with_reducible apply f_byte; decide))); done))) | ((with_reducible apply K_bool hm); (simp only [push_cast, seval]; rfl)) | ((with_reducible apply K_leave hm); intro r hm) | ((with_reducible apply K_leaveR hm); intro r hm) | ((apply S_loopY (b := 0) (X := c223) (x := c222) rfl (fun (c : SV × SV) (s : Int) => st [(2, c.1), (3, c.2), (5, .d (.int .i64 s))] []) (c := (_, _)) (s0 := _) hm); (focus (first | (dsimp only; done) | (dsimp only; rfl) | rfl)); (with_reducible refine Then.mk ?_ ?_)) | ((apply S_loopY (b := 0) (X := c226) (x := c225) rfl (fun (c : SV × Ch × SV × SV) (s : T13 × Int) => st [(1, c.1), (4, .ref 4 0), (7, .ref 7 0), (23, c.2.2.1), (24, c.2.2.2), (25, .d (.int .i64 s.2))] [(4, c.2.1), (7, .box (dR (r17 s.1)))]) (c := (_, _, _, _)) (s0 := (_, _)) hm); (focus (first | (dsimp only; done) | (dsimp only; rfl) | rfl)); (with_reducible refine Then.mk ?_ ?_)) | ((apply K_next (s' := (_, _)) hm); (focus (first | (dsimp only; done) | (dsimp only; rfl) | rfl))) | ((apply K_brk (s' := (_, _)) hm); (focus (first | (dsimp only; done) | (dsimp only; rfl) | rfl))) | ((apply K_next (s' := _) hm); (focus (first | (dsimp only; done) | (dsimp only; rfl) | rfl))) | ((apply K_brk (s' := _) hm); (focus (first | (dsimp only; done) | (dsimp only; rfl) | rfl))) | (((with_reducible apply K_brkN hm); (focus decide); intro r hm)) | (((with_reducible apply K_brkR hm); intro r hm)) | (((with_reducible apply LoopB.of); (focus (first | (dsimp only; done) | (dsimp only; rfl) | rfl)); (focus ((intro _; repeat' (first | with_reducible exact impC_end | with_reducible exact impC_endF | with_reducible refine impC_seq ?_ | with_reducible refine impC_block ?_ | ((with_reducible refine impC_rnd ?_); intro _) | ((with_reducible refine impC_brk ?_); intro _))))); (intro s o hm; first | unfold c222 | unfold c225); rotate_left; intro s hm)) | (((apply imp_stT; (repeat' (first | with_reducible exact keepT_nil | with_reducible exact keepC_nil | with_reducible apply keepT_cons | with_reducible apply keepC_cons | ((with_reducible apply svle_eq); (focus (first | (simp only [push_cast, seval]; rfl) | rfl)); (focus ((repeat' (first | rfl | (with_reducible first | apply ft1 | apply ft4 | apply ft5 | apply ft3 | apply ft2 | apply ft11 | apply ft12 | apply ft13 | apply f_optN | apply f_optS | apply f_some | apply f_tup | apply f_agg | apply f_ptr | apply f_fn | apply dv_slice | apply sv_d | apply f_cons | apply fold_nil | apply fold_cons | apply fold_app | apply f_rowI | apply f_rowY | apply f_rowS | apply f_rowB | apply f_rowL) | (with_reducible apply f_byte; decide))); done))) | ((with_reducible apply svle_td); (focus (first | (simp only [push_cast, seval]; rfl) | rfl)); (focus (first | (simp only [push_cast, seval]; rfl) | rfl)); (focus ((repeat' (first | rfl | (with_reducible first | apply ft1 | apply ft4 | apply ft5 | apply ft3 | apply ft2 | apply ft11 | apply ft12 | apply ft13 | apply f_optN | apply f_optS | apply f_some | apply f_tup | apply f_agg | apply f_ptr | apply f_fn | apply dv_slice | apply sv_d | apply f_cons | apply fold_nil | apply fold_cons | apply fold_app | apply f_rowI | apply f_rowY | apply f_rowS | apply f_rowB | apply f_rowL) | (with_reducible apply f_byte; decide))); done))) | ((with_reducible apply chle_eq); (focus (first | (simp only [push_cast, seval]; rfl) | rfl)); (first | with_reducible exact chle_rfl rfl | with_reducible exact chle_map0 | with_reducible apply chle_vec | with_reducible apply chle_box)) | (with_reducible first | apply ct1 | apply ct4 | apply ct5 | apply ct3 | apply ct2 | apply ct11 | apply ct12 | apply ct13 | apply bct1 | apply bct2 | apply r_shS | apply r_shI | apply r_rflO | apply r_oneO | apply r_appO | apply r_nilO | apply c_ownN | apply c_ownL | apply vc_rfl | apply vc_nil | apply vc_cons | apply r_rfl | apply r_rows | apply r_nil | apply r_app | apply r_cons | apply c_rowI | apply c_rowY | apply c_rowS | apply c_rowB | apply c_rowL))); done)))))
noncomputable def m92 (x0 : T5) (x1 : T5) : Option (Bool) := (w27.1 x0 x1).1
theorem s88 (x0 : T5) (x1 : T5) : ∀ r, m92 x0 x1 = some r → PureSpec Tryz.prog 8 [.agg (r9 x0), .agg (r9 x1)] (.bool r) := (w27.1 x0 x1).2
noncomputable def m93 (x0 : List T11) (x1 : Int) : Option (T13 × Int) := (w27.2 x0 x1).1
theorem s89 (x0 : List T11) (x1 : Int) : ∀ r, m93 x0 x1 = some r → PureSpec Tryz.prog 29 [.slice (List.map r15 x0), .int .i64 x1] (.tup [.agg (r17 r.1), .int .i64 r.2]) := (w27.2 x0 x1).2
def c228 : SC :=
  (.seq (.reg [.r 0 (.mv (.c (.d (.bool false))))])
  (.seq (.reg [.r 4 (.build [.d (.int .i64 0), .d (.int .i64 0), .d (.int .i64 0), .d (.str []), .d (.int .i64 0)] [(0, 1, .c (.d (.int .i64 1))), (3, 1, .c (.d (.str [65])))]),
     .r 5 (.bslice 5 [.t 4]),
     .c 6 (.f 29) [.t 5, .c (.d (.int .i64 0))],
     .r 3 (.mv (.t 6)),
     .r 7 (.ext (.t 3) 0),
     .r 8 (.ext (.t 3) 1),
     .w 1 (.boxM (.c (.agg [.d (.int .i64 0), .d (.int .i64 0), .d (.int .i64 0), .d (.int .i64 0), .d (.int .i64 0), .d (.int .i64 0)]))),
     .w 0 (.st 6 (.t 1) (.t 7)),
     .r 2 (.mv (.t 8))])
  (.seq (.reg (.r 9 (.mv (.t 2)) :: .r 10 (.bin .eql (.t 9) (.c (.d (.int .i64 0)))) :: .r 11 (.mv (.t 10)) :: gapp [12, 13, 14] 11 true (.r 12 (.fld 0 (.t 1)) :: .r 13 (.ld1 (.t 12)) :: .r 14 (.bin .eql (.t 13) (.c (.d (.int .i64 1)))) :: []) (.r 15 (.pick (.t 11) (.t 14) (.c (.d (.bool false)))) :: .r 0 (.mv (.t 15)) :: [])))
  .ret)))
theorem k96 : fits Tryz.prog 9 Tryz.f9 c228 [.t 0] 0 = true := by kernel_rfl
set_option maxRecDepth 100000 in
set_option maxHeartbeats 40000000 in
noncomputable def w28 : ({m : Option (Bool) // ∀ r, m = some r → PureSpec Tryz.prog 9 [] (.bool r)}) := by
  (apply Subtype.mk; intro r hm; apply pure_walk Tryz.func9 k96; unfold c228)
  repeat' (first | with_reducible refine W_seq ?_ | with_reducible refine W_reg ?_ | with_reducible refine W_block ?_ | with_reducible refine W_skip ?_ | with_reducible refine W_ret ?_ | with_reducible refine W_exit ?_ | with_reducible refine O_nil ?_ | with_reducible refine K_seq ?_ | with_reducible refine K_seqE ?_ | with_reducible refine K_seqR ?_ | with_reducible refine K_block ?_ | with_reducible refine K_blockR ?_ | with_reducible refine K_blockE ?_ | ((with_reducible apply K_blockN); decide) | ((with_reducible apply O_r); (simp only [push_cast, seval]; rfl); (first | exact trivial | omega)) | ((with_reducible apply O_and hm); (simp only [push_cast, seval]; rfl); rfl; intro v hm; rotate_left; intro v g hm) | ((with_reducible apply W_condT); (focus (simp only [push_cast, seval]; done))) | ((with_reducible apply W_condF); (focus (simp only [push_cast, seval]; done))) | ((with_reducible apply O_cF hm); (simp only [push_cast, seval]; rfl); (first | apply s89 _ _); (any_goals ((repeat' (first | rfl | (with_reducible first | apply ft11 | apply ft13 | apply f_optN | apply f_optS | apply f_some | apply f_tup | apply f_agg | apply f_ptr | apply f_fn | apply dv_slice | apply sv_d | apply f_cons | apply fold_nil | apply fold_cons | apply fold_app | apply f_rowI | apply f_rowY | apply f_rowS | apply f_rowB | apply f_rowL) | (with_reducible apply f_byte; decide))); done)); intro x hm) | ((with_reducible apply O_w); (simp only [push_cast, seval]; rfl); (first | exact trivial | omega)) | ((with_reducible apply S_condB hm); (simp only [push_cast, seval]; rfl); intro hm; rotate_left; intro hm) | ((with_reducible apply K_endS hm); (focus (simp only [resOf, resL, RV.get, push_cast, seval]; rfl)); (focus ((repeat' (first | rfl | (with_reducible first | apply ft11 | apply ft13 | apply f_optN | apply f_optS | apply f_some | apply f_tup | apply f_agg | apply f_ptr | apply f_fn | apply dv_slice | apply sv_d | apply f_cons | apply fold_nil | apply fold_cons | apply fold_app | apply f_rowI | apply f_rowY | apply f_rowS | apply f_rowB | apply f_rowL) | (with_reducible apply f_byte; decide))); done))) | ((with_reducible apply K_bool hm); (simp only [push_cast, seval]; rfl)))
noncomputable def m94 : Option (Bool) := (w28 ).1
theorem s90 : ∀ r, m94  = some r → PureSpec Tryz.prog 9 [] (.bool r) := (w28 ).2
def c229 : SC :=
  (.seq (.reg [.r 2 (.boxI (.t 0)),
     .r 3 (.boxI (.t 1)),
     .r 4 (.mv (.c (.d (.bool false))))])
  (.seq (.reg [.o 10 (.ldA 7 (.t 2)),
     .o 11 (.ldA 3 (.t 3)),
     .c 12 (.f 6) [.t 10, .t 11],
     .r 9 (.mv (.t 12)),
     .r 13 (.ext (.t 9) 0),
     .r 14 (.ext (.t 9) 1),
     .w 5 (.boxM (.c (.agg [.d (.str []), .d (.str []), .d (.str []), .d (.int .i64 0), .d (.int .i64 0), .d (.bool false), .nils]))),
     .w 0 (.st 7 (.t 5) (.t 13)),
     .r 6 (.mv (.t 14))])
  (.seq (.reg [.o 16 (.ldA 7 (.t 2)),
     .o 17 (.ldA 3 (.t 3)),
     .c 18 (.f 7) [.t 16, .t 17],
     .r 15 (.mv (.t 18)),
     .r 19 (.ext (.t 15) 0),
     .r 20 (.ext (.t 15) 1),
     .w 7 (.boxM (.c (.agg [.d (.str []), .d (.str []), .d (.str []), .d (.int .i64 0), .d (.int .i64 0), .d (.bool false), .nils]))),
     .w 0 (.st 7 (.t 7) (.t 19)),
     .r 8 (.mv (.t 20))])
  (.seq (.reg (.o 21 (.ldA 7 (.t 5)) :: .o 22 (.ldA 7 (.t 7)) :: .c 23 (.f 8) [.t 21, .t 22] :: .r 24 (.mv (.t 23)) :: gapp [25, 26, 27] 24 true (.r 25 (.mv (.t 6)) :: .r 26 (.mv (.t 8)) :: .r 27 (.bin .eql (.t 25) (.t 26)) :: []) (.r 28 (.pick (.t 24) (.t 27) (.c (.d (.bool false)))) :: .r 29 (.mv (.t 28)) :: gapp [30] 29 true (.c 30 (.f 9) [] :: []) (.r 31 (.pick (.t 29) (.t 30) (.c (.d (.bool false)))) :: .r 4 (.mv (.t 31)) :: []))))
  .ret))))
theorem k97 : fits Tryz.prog 3 Tryz.f3 c229 [.t 4] 2 = true := by kernel_rfl
set_option maxRecDepth 100000 in
set_option maxHeartbeats 40000000 in
noncomputable def w29 : (∀ (x0 : T5) (x1 : T10), {m : Option (Bool) // ∀ r, m = some r → PureSpec Tryz.prog 3 [.agg (r9 x0), .agg (r14 x1)] (.bool r)}) := by
  (intro x0 x1; apply Subtype.mk; intro r hm; apply pure_walk Tryz.func3 k97; unfold c229)
  repeat' (first | with_reducible refine W_seq ?_ | with_reducible refine W_reg ?_ | with_reducible refine W_block ?_ | with_reducible refine W_skip ?_ | with_reducible refine W_ret ?_ | with_reducible refine W_exit ?_ | with_reducible refine O_nil ?_ | with_reducible refine K_seq ?_ | with_reducible refine K_seqE ?_ | with_reducible refine K_seqR ?_ | with_reducible refine K_block ?_ | with_reducible refine K_blockR ?_ | with_reducible refine K_blockE ?_ | ((with_reducible apply K_blockN); decide) | with_reducible refine O_o2r ?_ | ((with_reducible apply O_r); (simp only [push_cast, seval]; rfl); (first | exact trivial | omega)) | ((with_reducible apply O_and hm); (simp only [push_cast, seval]; rfl); rfl; intro v hm; rotate_left; intro v g hm) | ((with_reducible apply W_condT); (focus (simp only [push_cast, seval]; done))) | ((with_reducible apply W_condF); (focus (simp only [push_cast, seval]; done))) | ((with_reducible apply O_cF hm); (simp only [push_cast, seval]; rfl); (first | apply s87 _ _ | apply s81 _ _ | apply s88 _ _ | apply s90); (any_goals ((repeat' (first | rfl | (with_reducible first | apply ft1 | apply ft7 | apply ft4 | apply ft9 | apply ft5 | apply ft3 | apply ft8 | apply ft10 | apply ft2 | apply ft6 | apply f_optN | apply f_optS | apply f_some | apply f_tup | apply f_agg | apply f_ptr | apply f_fn | apply dv_slice | apply sv_d | apply f_cons | apply fold_nil | apply fold_cons | apply fold_app | apply f_rowI | apply f_rowY | apply f_rowS | apply f_rowB | apply f_rowL) | (with_reducible apply f_byte; decide))); done)); intro x hm) | ((with_reducible apply O_w); (simp only [push_cast, seval]; rfl); (first | exact trivial | omega)) | ((with_reducible apply S_condB hm); (simp only [push_cast, seval]; rfl); intro hm; rotate_left; intro hm) | ((with_reducible apply K_endS hm); (focus (simp only [resOf, resL, RV.get, push_cast, seval]; rfl)); (focus ((repeat' (first | rfl | (with_reducible first | apply ft1 | apply ft7 | apply ft4 | apply ft9 | apply ft5 | apply ft3 | apply ft8 | apply ft10 | apply ft2 | apply ft6 | apply f_optN | apply f_optS | apply f_some | apply f_tup | apply f_agg | apply f_ptr | apply f_fn | apply dv_slice | apply sv_d | apply f_cons | apply fold_nil | apply fold_cons | apply fold_app | apply f_rowI | apply f_rowY | apply f_rowS | apply f_rowB | apply f_rowL) | (with_reducible apply f_byte; decide))); done))) | ((with_reducible apply K_bool hm); (simp only [push_cast, seval]; rfl)))
noncomputable def m95 (x0 : T5) (x1 : T10) : Option (Bool) := (w29 x0 x1).1
theorem s91 (x0 : T5) (x1 : T10) : ∀ r, m95 x0 x1 = some r → PureSpec Tryz.prog 3 [.agg (r9 x0), .agg (r14 x1)] (.bool r) := (w29 x0 x1).2
end Go.Proofs.YthailknfgcegoaaGreatDoor

/-
  How the parameters of the laws of this seat read, and a world in which the listed tables lie (printed by wip/tool/row.py).
-/
namespace Go.Proofs.YthailknfgcegoaaGreatDoor
open Go.ChangeShapes Go.WideShapes Go.ChangeAt Go.RowKit
set_option linter.unusedSimpArgs false
set_option linter.unusedVariables false
theorem and_t {a b : Bool} (h1 : a = true) (h2 : b = true) : (a && b) = true := by rw [h1, h2]; rfl
def Wt (P : Program) (n : Nat) (t : TypeId) {α : Type} (row : α → List DV) (ok : α → Prop) : Prop := ∀ m ds, WT P (m + n) t ds → ∃ x, ds = row x ∧ ok x
theorem Wt.up {P : Program} {n : Nat} {t : TypeId} {α : Type} {row : α → List DV} {ok : α → Prop} (h : Wt P n t row ok) (k : Nat) : Wt P (n + k) t row ok := fun m ds hd => h (m + k) ds (by rwa [show m + k + n = m + (n + k) by omega])
def okI (n : Int) : Prop := -9223372036854775808 ≤ n ∧ n ≤ 9223372036854775807
def okS (s : List UInt8) : Prop := s.length ≤ 9223372036854775807
def okB (_ : Bool) : Prop := True
def okL {α : Type} (ok : α → Prop) (l : List α) : Prop := l.length ≤ 9223372036854775807 ∧ ∀ a ∈ l, ok a
theorem WT_struct {P : Program} {n : Nat} {t : TypeId} {fs : Array Field} {ds : List DV} (hu : P.underlying t = some (.struct fs)) (h : WT P (n + 1) t ds) : WTS (WT P n) fs.toList ds := by
  simp only [WT, hu] at h; exact h
theorem wt_int {P : Program} {t : TypeId} (hu : P.underlying t = some (.int .i64)) : Wt P 1 t rowI okI := by
  intro m ds h
  simp only [WT, hu] at h
  obtain ⟨k, rfl, hw⟩ := h
  refine ⟨k, rfl, ?_⟩
  simp [Lit.wf] at hw
  have e : IntKind.i64.min = -9223372036854775808 := by decide
  unfold okI; omega
theorem wt_bool {P : Program} {t : TypeId} (hu : P.underlying t = some .bool) : Wt P 1 t rowB okB := by
  intro m ds h
  simp only [WT, hu] at h
  obtain ⟨b, rfl⟩ := h
  exact ⟨b, rfl, trivial⟩
theorem wt_str {P : Program} {t : TypeId} (hu : P.underlying t = some .string) : Wt P 1 t rowS okS := by
  intro m ds h
  simp only [WT, hu] at h
  obtain ⟨b, rfl, hl⟩ := h
  exact ⟨b, rfl, by unfold okS; unfold maxLen at hl; omega⟩
theorem wt_slice {P : Program} {n : Nat} {t e : TypeId} {α : Type} {row : α → List DV} {ok : α → Prop} (hu : P.underlying t = some (.slice e)) (he : Wt P n e row ok) : Wt P (n + 1) t (rowL row) (okL ok) := by
  intro m ds h
  rw [show m + (n + 1) = (m + n) + 1 by omega] at h
  simp only [WT, hu] at h
  obtain ⟨rows, rfl, hl, hr⟩ := h
  have : ∀ rows : List (List DV), (∀ r ∈ rows, WT P (m + n) e r) → ∃ l : List α, rows = l.map row ∧ ∀ a ∈ l, ok a := by
    intro rows
    induction rows with
    | nil => intro _; exact ⟨[], rfl, by simp⟩
    | cons r rows ih =>
      intro h
      obtain ⟨a, rfl, ha⟩ := he m r (h r (by simp))
      obtain ⟨l, rfl, hl⟩ := ih (fun r hr => h r (by simp [hr]))
      exact ⟨a :: l, rfl, by simpa using ⟨ha, hl⟩⟩
  obtain ⟨l, rfl, hok⟩ := this rows hr
  exact ⟨l, rfl, by unfold maxLen at hl; simp at hl; omega, hok⟩
theorem ownK : ownKnob Tryz.prog.godebug = none := by kernel_rfl
theorem laidOut : laidOutB Tryz.prog = true := by kernel_rfl
theorem wt9 : Wt Tryz.prog 1 9 rowS okS := wt_str Tryz.underlying9
theorem wt3 : Wt Tryz.prog 1 3 rowI okI := wt_int Tryz.underlying3
theorem wt4 : Wt Tryz.prog 1 4 rowB okB := wt_bool Tryz.underlying4
theorem wt58 : Wt Tryz.prog 2 58 (rowL rowS) (okL okS) := wt_slice Tryz.underlying58 wt9
theorem wt129 : Wt Tryz.prog 3 129 (rowL (rowL rowS)) (okL (okL okS)) := wt_slice Tryz.underlying129 wt58
def okTapi_Element (x : T1) : Prop := (okL (okL okS)) x.fRepeats
set_option maxRecDepth 100000 in
theorem wt131 : Wt Tryz.prog 4 131 r5 okTapi_Element := by
  intro m ds h
  have h := WT_struct Tryz.underlying131 h
  simp only [WTS] at h
  obtain ⟨a0, _, rfl, h0, rfl⟩ := h
  obtain ⟨x0, rfl, o0⟩ := (wt129.up 0) m _ h0
  refine ⟨⟨x0⟩, ?_, o0⟩
  simp only [r5, rowI, rowY, rowS, rowB, rowL, List.append_assoc, List.cons_append, List.nil_append, List.append_nil]
theorem wt98 : Wt Tryz.prog 5 98 (rowL r5) (okL okTapi_Element) := wt_slice Tryz.underlying98 wt131
def okTapi_Segment (x : T2) : Prop := okS x.fTag ∧ (okL okTapi_Element) x.fElements
set_option maxRecDepth 100000 in
theorem wt100 : Wt Tryz.prog 6 100 r6 okTapi_Segment := by
  intro m ds h
  have h := WT_struct Tryz.underlying100 h
  simp only [WTS] at h
  obtain ⟨a0, _, rfl, h0, a1, _, rfl, h1, rfl⟩ := h
  obtain ⟨x0, rfl, o0⟩ := (wt9.up 4) m _ h0
  obtain ⟨x1, rfl, o1⟩ := (wt98.up 0) m _ h1
  refine ⟨⟨x0, x1⟩, ?_, o0, o1⟩
  simp only [r6, rowI, rowY, rowS, rowB, rowL, List.append_assoc, List.cons_append, List.nil_append, List.append_nil]
theorem wt36 : Wt Tryz.prog 7 36 (rowL r6) (okL okTapi_Segment) := wt_slice Tryz.underlying36 wt100
def okTapi_Message (x : T3) : Prop := okS x.fRef ∧ okS x.fKind ∧ okS x.fVersion ∧ (okL okTapi_Segment) x.fSegments
set_option maxRecDepth 100000 in
theorem wt56 : Wt Tryz.prog 8 56 r7 okTapi_Message := by
  intro m ds h
  have h := WT_struct Tryz.underlying56 h
  simp only [WTS] at h
  obtain ⟨a0, _, rfl, h0, a1, _, rfl, h1, a2, _, rfl, h2, a3, _, rfl, h3, rfl⟩ := h
  obtain ⟨x0, rfl, o0⟩ := (wt9.up 6) m _ h0
  obtain ⟨x1, rfl, o1⟩ := (wt9.up 6) m _ h1
  obtain ⟨x2, rfl, o2⟩ := (wt9.up 6) m _ h2
  obtain ⟨x3, rfl, o3⟩ := (wt36.up 0) m _ h3
  refine ⟨⟨x0, x1, x2, x3⟩, ?_, o0, o1, o2, o3⟩
  simp only [r7, rowI, rowY, rowS, rowB, rowL, List.append_assoc, List.cons_append, List.nil_append, List.append_nil]
theorem wt52 : Wt Tryz.prog 9 52 (rowL r7) (okL okTapi_Message) := wt_slice Tryz.underlying52 wt56
def okTapi_Group (x : T4) : Prop := okS x.fRef ∧ okS x.fKind ∧ (okL okTapi_Message) x.fMessages
set_option maxRecDepth 100000 in
theorem wt54 : Wt Tryz.prog 10 54 r8 okTapi_Group := by
  intro m ds h
  have h := WT_struct Tryz.underlying54 h
  simp only [WTS] at h
  obtain ⟨a0, _, rfl, h0, a1, _, rfl, h1, a2, _, rfl, h2, rfl⟩ := h
  obtain ⟨x0, rfl, o0⟩ := (wt9.up 8) m _ h0
  obtain ⟨x1, rfl, o1⟩ := (wt9.up 8) m _ h1
  obtain ⟨x2, rfl, o2⟩ := (wt52.up 0) m _ h2
  refine ⟨⟨x0, x1, x2⟩, ?_, o0, o1, o2⟩
  simp only [r8, rowI, rowY, rowS, rowB, rowL, List.append_assoc, List.cons_append, List.nil_append, List.append_nil]
theorem wt22 : Wt Tryz.prog 11 22 (rowL r8) (okL okTapi_Group) := wt_slice Tryz.underlying22 wt54
def okTapi_Interchange (x : T5) : Prop := okS x.fRef ∧ okS x.fSender ∧ okS x.fReceiver ∧ okI x.fDay ∧ okI x.fSecond ∧ okB x.fTest ∧ (okL okTapi_Group) x.fGroups
set_option maxRecDepth 100000 in
theorem wt24 : Wt Tryz.prog 12 24 r9 okTapi_Interchange := by
  intro m ds h
  have h := WT_struct Tryz.underlying24 h
  simp only [WTS] at h
  obtain ⟨a0, _, rfl, h0, a1, _, rfl, h1, a2, _, rfl, h2, a3, _, rfl, h3, a4, _, rfl, h4, a5, _, rfl, h5, a6, _, rfl, h6, rfl⟩ := h
  obtain ⟨x0, rfl, o0⟩ := (wt9.up 10) m _ h0
  obtain ⟨x1, rfl, o1⟩ := (wt9.up 10) m _ h1
  obtain ⟨x2, rfl, o2⟩ := (wt9.up 10) m _ h2
  obtain ⟨x3, rfl, o3⟩ := (wt3.up 10) m _ h3
  obtain ⟨x4, rfl, o4⟩ := (wt3.up 10) m _ h4
  obtain ⟨x5, rfl, o5⟩ := (wt4.up 10) m _ h5
  obtain ⟨x6, rfl, o6⟩ := (wt22.up 0) m _ h6
  refine ⟨⟨x0, x1, x2, x3, x4, x5, x6⟩, ?_, o0, o1, o2, o3, o4, o5, o6⟩
  simp only [r9, rowI, rowY, rowS, rowB, rowL, List.append_assoc, List.cons_append, List.nil_append, List.append_nil]
def okTapi_Spot (x : T6) : Prop := okI x.fElement ∧ okI x.fRepeat ∧ okI x.fPart
set_option maxRecDepth 100000 in
theorem wt161 : Wt Tryz.prog 2 161 r10 okTapi_Spot := by
  intro m ds h
  have h := WT_struct Tryz.underlying161 h
  simp only [WTS] at h
  obtain ⟨a0, _, rfl, h0, a1, _, rfl, h1, a2, _, rfl, h2, rfl⟩ := h
  obtain ⟨x0, rfl, o0⟩ := (wt3.up 0) m _ h0
  obtain ⟨x1, rfl, o1⟩ := (wt3.up 0) m _ h1
  obtain ⟨x2, rfl, o2⟩ := (wt3.up 0) m _ h2
  refine ⟨⟨x0, x1, x2⟩, ?_, o0, o1, o2⟩
  simp only [r10, rowI, rowY, rowS, rowB, rowL, List.append_assoc, List.cons_append, List.nil_append, List.append_nil]
def okTapi_Flaw (x : T7) : Prop := okI x.fKind ∧ okI x.fSegment ∧ okTapi_Spot x.fAt ∧ okS x.fName
set_option maxRecDepth 100000 in
theorem wt209 : Wt Tryz.prog 3 209 r11 okTapi_Flaw := by
  intro m ds h
  have h := WT_struct Tryz.underlying209 h
  simp only [WTS] at h
  obtain ⟨a0, _, rfl, h0, a1, _, rfl, h1, a2, _, rfl, h2, a3, _, rfl, h3, rfl⟩ := h
  obtain ⟨x0, rfl, o0⟩ := (wt3.up 1) m _ h0
  obtain ⟨x1, rfl, o1⟩ := (wt3.up 1) m _ h1
  obtain ⟨x2, rfl, o2⟩ := (wt161.up 0) m _ h2
  obtain ⟨x3, rfl, o3⟩ := (wt9.up 1) m _ h3
  refine ⟨⟨x0, x1, x2, x3⟩, ?_, o0, o1, o2, o3⟩
  simp only [r11, rowI, rowY, rowS, rowB, rowL, List.append_assoc, List.cons_append, List.nil_append, List.append_nil]
theorem wt57 : Wt Tryz.prog 4 57 (rowL r11) (okL okTapi_Flaw) := wt_slice Tryz.underlying57 wt209
def okTapi_MessageReply (x : T8) : Prop := okS x.fRef ∧ okI x.fVerdict ∧ okB x.fUnknown ∧ (okL okTapi_Flaw) x.fFlaws ∧ (okL okS) x.fFailing
set_option maxRecDepth 100000 in
theorem wt60 : Wt Tryz.prog 5 60 r12 okTapi_MessageReply := by
  intro m ds h
  have h := WT_struct Tryz.underlying60 h
  simp only [WTS] at h
  obtain ⟨a0, _, rfl, h0, a1, _, rfl, h1, a2, _, rfl, h2, a3, _, rfl, h3, a4, _, rfl, h4, rfl⟩ := h
  obtain ⟨x0, rfl, o0⟩ := (wt9.up 3) m _ h0
  obtain ⟨x1, rfl, o1⟩ := (wt3.up 3) m _ h1
  obtain ⟨x2, rfl, o2⟩ := (wt4.up 3) m _ h2
  obtain ⟨x3, rfl, o3⟩ := (wt57.up 0) m _ h3
  obtain ⟨x4, rfl, o4⟩ := (wt58.up 2) m _ h4
  refine ⟨⟨x0, x1, x2, x3, x4⟩, ?_, o0, o1, o2, o3, o4⟩
  simp only [r12, rowI, rowY, rowS, rowB, rowL, List.append_assoc, List.cons_append, List.nil_append, List.append_nil]
theorem wt61 : Wt Tryz.prog 6 61 (rowL r12) (okL okTapi_MessageReply) := wt_slice Tryz.underlying61 wt60
def okTapi_GroupReply (x : T9) : Prop := okS x.fRef ∧ okI x.fVerdict ∧ (okL okTapi_MessageReply) x.fMessages
set_option maxRecDepth 100000 in
theorem wt63 : Wt Tryz.prog 7 63 r13 okTapi_GroupReply := by
  intro m ds h
  have h := WT_struct Tryz.underlying63 h
  simp only [WTS] at h
  obtain ⟨a0, _, rfl, h0, a1, _, rfl, h1, a2, _, rfl, h2, rfl⟩ := h
  obtain ⟨x0, rfl, o0⟩ := (wt9.up 5) m _ h0
  obtain ⟨x1, rfl, o1⟩ := (wt3.up 5) m _ h1
  obtain ⟨x2, rfl, o2⟩ := (wt61.up 0) m _ h2
  refine ⟨⟨x0, x1, x2⟩, ?_, o0, o1, o2⟩
  simp only [r13, rowI, rowY, rowS, rowB, rowL, List.append_assoc, List.cons_append, List.nil_append, List.append_nil]
theorem wt25 : Wt Tryz.prog 8 25 (rowL r13) (okL okTapi_GroupReply) := wt_slice Tryz.underlying25 wt63
def okTapi_Reply (x : T10) : Prop := okS x.fRef ∧ okI x.fVerdict ∧ (okL okTapi_GroupReply) x.fGroups
set_option maxRecDepth 100000 in
theorem wt27 : Wt Tryz.prog 9 27 r14 okTapi_Reply := by
  intro m ds h
  have h := WT_struct Tryz.underlying27 h
  simp only [WTS] at h
  obtain ⟨a0, _, rfl, h0, a1, _, rfl, h1, a2, _, rfl, h2, rfl⟩ := h
  obtain ⟨x0, rfl, o0⟩ := (wt9.up 7) m _ h0
  obtain ⟨x1, rfl, o1⟩ := (wt3.up 7) m _ h1
  obtain ⟨x2, rfl, o2⟩ := (wt25.up 0) m _ h2
  refine ⟨⟨x0, x1, x2⟩, ?_, o0, o1, o2⟩
  simp only [r14, rowI, rowY, rowS, rowB, rowL, List.append_assoc, List.cons_append, List.nil_append, List.append_nil]
def layVals : Nat → DataW Unit → List Value
  | 0, _ => []
  | _ + 1, .lit (.int k n) => [.int k n]
  | n + 1, .agg ps => ps.flatMap (layVals n)
  | _ + 1, _ => []
def layCells (l : List Value) : Obj → Obj
  | .cells _ t frozen => .cells l.toArray t frozen
  | o => o
noncomputable def laidWorld (os : Os) : World :=
  { World.holding Tryz.prog os ⟨#[], #[], []⟩ with
    heap := (((World.holding Tryz.prog os ⟨#[], #[], []⟩).heap.modify 2 (layCells (layVals 5 Rows.laid_unicode_utf8_acceptRanges))).modify 1 (layCells (layVals 5 Rows.laid_unicode_utf8_first))) }
end Go.Proofs.YthailknfgcegoaaGreatDoor

/-
  Plain laws: small computations, and loops whose rounds are known.
-/
namespace Go.Proofs.YthailknfgcegoaaGreatDoor
set_option linter.unusedSimpArgs false
set_option linter.unusedVariables false
open Go.RowKit
theorem andO_some (a b : Bool) : andO a (some b) = some (a && b) := by cases a <;> rfl
theorem orO_some (a b : Bool) : orO a (some b) = some (a || b) := by cases a <;> rfl
theorem getI_nat {α : Type} (l : List α) (i : Nat) : getI l (i : Int) = l[i]? := by simp [getI]
theorem thenO_some {R : Type} {c : Option Unit} {m : Option R} (h : c = some ()) : thenO c m = m := by rw [h]; rfl
theorem lenO_ok {n : Nat} (h : n ≤ 137438953472) : lenO n = some () := by simp [lenO, h]
theorem wrapN (i : Nat) (h : i < 9223372036854775807) : IntKind.i64.wrap ((i : Int) + 1) = ((i + 1 : Nat) : Int) := by rw [wrap64 _ (by omega) (by omega)]; simp
theorem loop_trace {S A : Type} {f : S → Option (S ⊕ A)} {a : A} (st : Nat → S) (n : Nat) (hs : ∀ i, i < n → f (st i) = some (.inl (st (i + 1)))) (he : f (st n) = some (.inr a)) : loopC f (st 0) = some a := by
  have : ∀ k, k ≤ n → loopC f (st (n - k)) = some a := by
    intro k
    induction k with
    | zero => intro _; rw [loopC_eq, Nat.sub_zero, he]
    | succ k ih =>
      intro hk
      rw [loopC_eq, hs (n - (k + 1)) (by omega), show n - (k + 1) + 1 = n - k by omega]
      exact ih (by omega)
  have := this n (Nat.le_refl n)
  rwa [Nat.sub_self] at this
theorem bind_loop {S A R : Type} {f : S → Option (S ⊕ A)} {s0 : S} {k : A → Option R} {a : A} {r : Option R} (h : loopC f s0 = some a) (hk : k a = r) : (loopC f s0).bind k = r := by rw [h]; exact hk
def firstS {A : Type} (g : Nat → Option A) : Nat → Nat → Option A
  | _, 0 => none
  | i, n + 1 => match g i with
    | some a => some a
    | none => firstS g (i + 1) n
theorem firstS_skip {A : Type} {g : Nat → Option A} : ∀ (i n k : Nat), k ≤ n → (∀ j, i ≤ j → j < i + k → g j = none) → firstS g i n = firstS g (i + k) (n - k)
  | i, n, 0, _, _ => by simp
  | i, 0, k + 1, h, _ => by omega
  | i, n + 1, k + 1, h, hz => by
    have h1 := hz i (by omega) (by omega)
    simp only [firstS, h1]
    rw [firstS_skip (i + 1) n k (by omega) (fun j hj hj' => hz j (by omega) (by omega))]
    congr 1 <;> omega
theorem firstS_none {A : Type} {g : Nat → Option A} {n : Nat} (h : ∀ j, j < n → g j = none) : firstS g 0 n = none := by
  rw [firstS_skip 0 n n (by omega) (fun j _ hj => h j (by omega)), Nat.sub_self]; rfl
theorem firstS_some {A : Type} {g : Nat → Option A} {n k : Nat} {a : A} (hk : k < n) (hb : ∀ j, j < k → g j = none) (ha : g k = some a) : firstS g 0 n = some a := by
  rw [firstS_skip 0 n k (by omega) (fun j _ hj => hb j (by omega))]
  obtain ⟨m, hm⟩ : ∃ m, n - k = m + 1 := ⟨n - k - 1, by omega⟩
  rw [hm, Nat.zero_add]
  simp only [firstS, ha]
theorem firstS_cases {A : Type} (g : Nat → Option A) (n : Nat) : (firstS g 0 n = none ∧ ∀ j, j < n → g j = none) ∨ ∃ k a, k < n ∧ (∀ j, j < k → g j = none) ∧ g k = some a ∧ firstS g 0 n = some a := by
  by_cases h : ∃ k, k < n ∧ (g k).isSome = true
  · have : ∃ k, (k < n ∧ (g k).isSome = true) ∧ ∀ j, j < k → ¬ (j < n ∧ (g j).isSome = true) := by
      obtain ⟨k, hk⟩ := h
      induction k using Nat.strongRecOn with
      | _ k ih =>
        by_cases hj : ∃ j, j < k ∧ (j < n ∧ (g j).isSome = true)
        · obtain ⟨j, h1, h2⟩ := hj; exact ih j h1 h2
        · exact ⟨k, hk, fun j h1 h2 => hj ⟨j, h1, h2⟩⟩
    obtain ⟨k, ⟨h1, h2⟩, h3⟩ := this
    obtain ⟨a, ha⟩ := Option.isSome_iff_exists.1 h2
    have hb : ∀ j, j < k → g j = none := fun j hj => by
      have := h3 j hj
      cases hg : g j with
      | none => rfl
      | some b => exact absurd ⟨by omega, by simp [hg]⟩ this
    exact .inr ⟨k, a, h1, hb, ha, firstS_some h1 hb ha⟩
  · have hn : ∀ j, j < n → g j = none := fun j hj => by
      cases hg : g j with
      | none => rfl
      | some b => exact absurd ⟨j, hj, by simp [hg]⟩ h
    exact .inl ⟨firstS_none hn, hn⟩
theorem loop_first {S A : Type} {f : S → Option (S ⊕ A)} {z : A} (st : Nat → S) (n : Nat) (g : Nat → Option A) (hs : ∀ i, i < n → g i = none → f (st i) = some (.inl (st (i + 1)))) (hx : ∀ i a, i < n → g i = some a → f (st i) = some (.inr a)) (he : f (st n) = some (.inr z)) : loopC f (st 0) = some ((firstS g 0 n).getD z) := by
  rcases firstS_cases g n with ⟨h1, h2⟩ | ⟨k, a, h1, h2, h3, h4⟩
  · rw [h1, Option.getD_none]
    exact loop_trace st n (fun i hi => hs i hi (h2 i hi)) he
  · rw [h4, Option.getD_some]
    exact loop_trace st k (fun i hi => hs i (by omega) (h2 i hi)) (hx k a h1 h3)
theorem take_snoc {α : Type} {l : List α} {i : Nat} {e : α} (h : l[i]? = some e) : l.take (i + 1) = l.take i ++ [e] := by rw [List.take_add_one, h]; rfl
theorem foldl_snoc {α β : Type} {g : β → α → β} {b : β} {l : List α} {i : Nat} {e : α} (h : l[i]? = some e) : (l.take (i + 1)).foldl g b = g ((l.take i).foldl g b) e := by
  rw [take_snoc h, List.foldl_append]; rfl
theorem get_lt {α : Type} {l : List α} {i : Nat} (h : i < l.length) : ∃ e, l[i]? = some e := ⟨_, List.getElem?_eq_getElem h⟩
theorem lt_dec {i n : Nat} (h : i < n) : decide ((i : Int) < (n : Int)) = true := by simpa using h
theorem lt_dec_self (n : Nat) : decide ((n : Int) < (n : Int)) = false := by simp
end Go.Proofs.YthailknfgcegoaaGreatDoor

/-
  Plain laws of the wire: marks.
-/
namespace Go.Proofs.YthailknfgcegoaaGreatDoor
set_option linter.unusedSimpArgs false
set_option linter.unusedVariables false
open Go.RowKit
theorem loop_find {α R : Type} (l : List α) (h : α → Option R) {f : Int → Option (Int ⊕ (Int ⊕ R))} (hb : ∀ (i : Nat) (e : α), l[i]? = some e → f (i : Int) = (match h e with | some a => some (.inr (.inr a)) | none => some (.inl ((i + 1 : Nat) : Int))))
    (he : f (l.length : Int) = some (.inr (.inl (l.length : Int)))) : loopC f 0 = some (match l.findSome? h with | some a => .inr a | none => .inl (l.length : Int)) := by
  have : ∀ (t : List α) (i : Nat), l.drop i = t → i ≤ l.length → loopC f (i : Int) = some (match t.findSome? h with | some a => .inr a | none => .inl (l.length : Int)) := by
    intro t
    induction t with
    | nil =>
      intro i hd hi
      have : i = l.length := by have := congrArg List.length hd; simp at this; omega
      subst this
      rw [loopC_eq, he]
      rfl
    | cons e t ih =>
      intro i hd hi
      have h1 : l[i]? = some e := by
        have := congrArg (fun q => q[0]?) hd
        simpa using this
      have h2 : i < l.length := by
        rcases Nat.lt_or_ge i l.length with h | h
        · exact h
        · rw [List.drop_eq_nil_of_le h] at hd; cases hd
      have h3 : l.drop (i + 1) = t := by
        have := congrArg List.tail hd
        simpa using this
      rw [loopC_eq, hb i e h1, List.findSome?_cons]
      cases h e with
      | some a => rfl
      | none => exact ih (i + 1) h3 h2
  exact this l 0 rfl (Nat.zero_le _)
theorem inBytes_eq (l : List UInt8) (lo hi : UInt8) (hl : l.length < 9223372036854775807) : m7 l lo hi = some (match l.findSome? fun x => if (decide ((x.toNat : Int) < (lo.toNat : Int)) || decide ((hi.toNat : Int) < (x.toNat : Int))) = true then some false else none with | some b => b | none => true) := by
  unfold m7 w3; dsimp only
  refine bind_loop (loop_find l (fun x => if (decide ((x.toNat : Int) < (lo.toNat : Int)) || decide ((hi.toNat : Int) < (x.toNat : Int))) = true then some false else none) (fun i e h => ?_) ?_) ?_
  · obtain ⟨hi', -⟩ := List.getElem?_eq_some_iff.1 h
    simp only [lt_dec hi', cond_true, getI_nat, h, Option.bind_some, orO_some, wrapN i (by omega)]
    cases (decide ((e.toNat : Int) < (lo.toNat : Int)) || decide ((hi.toNat : Int) < (e.toNat : Int))) <;> rfl
  · simp only [lt_dec_self, cond_false]; rfl
  · cases l.findSome? _ <;> rfl
end Go.Proofs.YthailknfgcegoaaGreatDoor

/-
  Plain laws of the wire: a byte that may be a mark.
-/
namespace Go.Proofs.YthailknfgcegoaaGreatDoor
set_option linter.unusedSimpArgs false
set_option linter.unusedVariables false
open Go.RowKit
def tagSet : List UInt8 := [65, 66, 67, 68, 69, 70, 71, 72, 73, 74, 75, 76, 77, 78, 79, 80, 81, 82, 83, 84, 85, 86, 87, 88, 89, 90, 48, 49, 50, 51, 52, 53, 54, 55, 56, 57]
theorem isTagPart_eq (l : List UInt8) (hl : l.length ≤ 9223372036854775807) : m10 l = some (decide (Lib.trimS l tagSet = [])) := by
  unfold m10 w4; dsimp only
  have : m101 l tagSet = some (Lib.trimS l tagSet) := by unfold m101; rw [if_pos ⟨hl, by decide, by decide⟩]
  simp only [tagSet] at this ⊢
  rw [this]
  rfl
end Go.Proofs.YthailknfgcegoaaGreatDoor

/-
  Plain laws of the wire: texts.
-/
namespace Go.Proofs.YthailknfgcegoaaGreatDoor
set_option linter.unusedSimpArgs false
set_option linter.unusedVariables false
open Go.RowKit
def badT (x : UInt8) : Bool := decide ((x.toNat : Int) < 32) || decide (126 < (x.toNat : Int))
def textF (t : List UInt8) : Int := if 1000 < t.length then 2 else match t.findSome? (fun x => if badT x = true then some (3 : Int) else none) with | some a => a | none => 0
theorem findSome_congr2 {α A B : Type} (p : α → Bool) (a : A) (b : B) : ∀ (l : List α), (l.findSome? (fun x => if p x = true then some a else none) = none ∧ l.findSome? (fun x => if p x = true then some b else none) = none) ∨ (l.findSome? (fun x => if p x = true then some a else none) = some a ∧ l.findSome? (fun x => if p x = true then some b else none) = some b)
  | [] => .inl ⟨rfl, rfl⟩
  | x :: l => by
    rw [List.findSome?_cons, List.findSome?_cons]
    cases h : p x with
    | true => exact .inr ⟨by simp, by simp⟩
    | false => simpa using findSome_congr2 p a b l
theorem r_text (t : List UInt8) : m9 t = some (textF t) := by
  unfold m9 w3; dsimp only
  unfold textF
  by_cases h : 1000 < t.length
  · have : decide ((1000 : Int) < (t.length : Int)) = true := by simp; omega
    simp only [this, cond_true, h, if_true]
  · have : decide ((1000 : Int) < (t.length : Int)) = false := by simp; omega
    simp only [this, cond_false, h, if_false]
    refine bind_loop (loop_find t (fun x => if badT x = true then some (3 : Int) else none) (fun i e he => ?_) ?_) ?_
    · obtain ⟨hi', -⟩ := List.getElem?_eq_some_iff.1 he
      simp only [lt_dec hi', cond_true, getI_nat, he, Option.bind_some, orO_some, wrapN i (by omega)]
      show (bif badT e then inrO (inrO (some 3)) else some (Sum.inl ((i + 1 : Nat) : Int))) = _
      cases badT e <;> rfl
    · simp only [lt_dec_self, cond_false]; rfl
    · cases t.findSome? _ <;> rfl
theorem w_text (t : List UInt8) : m15 t = some (textF t) := by
  unfold m15 w5; dsimp only
  unfold textF
  by_cases h : 1000 < t.length
  · have : decide ((1000 : Int) < (t.length : Int)) = true := by simp; omega
    simp only [this, cond_true, h, if_true]
  · have h1 : decide ((1000 : Int) < (t.length : Int)) = false := by simp; omega
    have h2 : decide ((t.length : Int) ≤ 1000) = true := by simp; omega
    have hT : m11 t = some (match t.findSome? fun x => if badT x = true then some false else none with | some b => b | none => true) := by
      unfold m11 w4; dsimp only
      simp only [h2, inBytes_eq t _ _ (by omega), andO_some, Option.bind_some, Bool.true_and]
      rfl
    simp only [h1, cond_false, h, if_false, hT, Option.bind_some]
    rcases findSome_congr2 badT (3 : Int) false t with ⟨e1, e2⟩ | ⟨e1, e2⟩ <;> rw [e1, e2] <;> rfl
end Go.Proofs.YthailknfgcegoaaGreatDoor

/-
  Plain laws: loops over lists with a state and an early end; folds over nested lists.
-/
namespace Go.Proofs.YthailknfgcegoaaGreatDoor
set_option linter.unusedSimpArgs false
set_option linter.unusedVariables false
open Go.RowKit
def runI {α S A : Type} (g : Nat → S → α → Option (S ⊕ A)) (fin : S → Option A) : List α → Nat → S → Option A
  | [], _, s => fin s
  | e :: l, i, s => match g i s e with
    | some (.inl s') => runI g fin l (i + 1) s'
    | some (.inr a) => some a
    | none => none
theorem drop_head {α : Type} {l t : List α} {e : α} {i : Nat} (hd : l.drop i = e :: t) : l[i]? = some e ∧ i < l.length ∧ l.drop (i + 1) = t := by
  refine ⟨?_, ?_, ?_⟩
  · have := congrArg (fun q => q[0]?) hd
    simpa using this
  · rcases Nat.lt_or_ge i l.length with h | h
    · exact h
    · rw [List.drop_eq_nil_of_le h] at hd; cases hd
  · have := congrArg List.tail hd
    simpa using this
theorem drop_nil_len {α : Type} {l : List α} {i : Nat} (hd : l.drop i = []) (hi : i ≤ l.length) : i = l.length := by
  have := congrArg List.length hd; simp at this; omega
theorem loop_runI {α S T A : Type} (l : List α) (mk : Nat → S → T) (g : Nat → S → α → Option (S ⊕ A)) (fin : S → Option A) {f : T → Option (T ⊕ A)}
    (hb : ∀ (i : Nat) (e : α) (s : S), l[i]? = some e → f (mk i s) = (match g i s e with | some (.inl s') => some (.inl (mk (i + 1) s')) | some (.inr a) => some (.inr a) | none => none))
    (he : ∀ s, f (mk l.length s) = (fin s).map .inr) (s : S) : loopC f (mk 0 s) = runI g fin l 0 s := by
  have : ∀ (t : List α) (i : Nat) (s : S), l.drop i = t → i ≤ l.length → loopC f (mk i s) = runI g fin t i s := by
    intro t
    induction t with
    | nil =>
      intro i s hd hi
      have := drop_nil_len hd hi
      subst this
      rw [loopC_eq, he]
      simp only [runI]
      cases fin s <;> rfl
    | cons e t ih =>
      intro i s hd hi
      obtain ⟨h1, h2, h3⟩ := drop_head hd
      rw [loopC_eq, hb i e s h1]
      simp only [runI]
      cases g i s e with
      | none => rfl
      | some o =>
        cases o with
        | inr a => rfl
        | inl s' => exact ih (i + 1) s' h3 h2
  exact this l 0 s rfl (Nat.zero_le _)
theorem loop_pre {α T A : Type} (l : List α) (st : Nat → List α → T) {f : T → Option (T ⊕ A)} {a : A}
    (hb : ∀ (i : Nat) (e : α), l[i]? = some e → f (st i (l.take i)) = some (.inl (st (i + 1) (l.take i ++ [e]))))
    (he : f (st l.length l) = some (.inr a)) : loopC f (st 0 []) = some a := by
  have := loop_trace (f := f) (a := a) (fun i => st i (l.take i)) l.length (fun i hi => by
    obtain ⟨e, h⟩ := get_lt hi
    show f (st i (l.take i)) = some (.inl (st (i + 1) (l.take (i + 1))))
    rw [hb i e h, take_snoc h]) (by
    show f (st l.length (l.take l.length)) = _
    rw [List.take_length]; exact he)
  simpa using this
theorem get_le {α : Type} {l : List α} {i : Nat} {e : α} (h : l[i]? = some e) : i < l.length := (List.getElem?_eq_some_iff.1 h).1
end Go.Proofs.YthailknfgcegoaaGreatDoor

/-
  Plain laws of the wire: tags, elements, segments.
-/
namespace Go.Proofs.YthailknfgcegoaaGreatDoor
set_option linter.unusedSimpArgs false
set_option linter.unusedVariables false
open Go.RowKit
def listF {α : Type} (h : α → Int) : List α → Int
  | [] => 0
  | e :: l => if h e = 0 then listF h l else h e
theorem loop_fault {α R : Type} (l : List α) (h : α → Int) (ret : Int → R) (k : Int → Option R) {f : Int → Option (Int ⊕ (Int ⊕ R))}
    (hb : ∀ (i : Nat) (e : α), l[i]? = some e → f (i : Int) = if h e = 0 then some (.inl ((i + 1 : Nat) : Int)) else some (.inr (.inr (ret (h e)))))
    (he : f (l.length : Int) = some (.inr (.inl (l.length : Int)))) : (loopC f 0).bind (outK k) = if listF h l = 0 then k (l.length : Int) else some (ret (listF h l)) := by
  have : ∀ (t : List α) (i : Nat), l.drop i = t → i ≤ l.length → loopC f (i : Int) = if listF h t = 0 then some (.inl (l.length : Int)) else some (.inr (ret (listF h t))) := by
    intro t
    induction t with
    | nil =>
      intro i hd hi
      have := drop_nil_len hd hi
      subst this
      rw [loopC_eq, he]
      rfl
    | cons e t ih =>
      intro i hd hi
      obtain ⟨h1, h2, h3⟩ := drop_head hd
      rw [loopC_eq, hb i e h1]
      by_cases h0 : h e = 0
      · simp only [listF, h0, if_true]; exact ih (i + 1) h3 h2
      · simp only [listF, h0, if_false]
  have e0 : loopC f 0 = if listF h l = 0 then some (.inl (l.length : Int)) else some (.inr (ret (listF h l))) := this l 0 rfl (Nat.zero_le _)
  rw [e0]
  by_cases h0 : listF h l = 0
  · rw [if_pos h0, if_pos h0]; rfl
  · rw [if_neg h0, if_neg h0]; rfl
theorem listF_zero {α : Type} {h : α → Int} : ∀ {l : List α}, listF h l = 0 → ∀ e ∈ l, h e = 0
  | [], _, e, he => by cases he
  | x :: l, hl, e, he => by
    simp only [listF] at hl
    split at hl
    · rename_i h0
      rcases List.mem_cons.1 he with rfl | he
      · exact h0
      · exact listF_zero hl e he
    · rename_i h0; exact absurd hl h0
def repF (l : List (List UInt8)) : Int := if l.length = 0 then 9 else if 20 < l.length then 2 else listF textF l
def elemF (e : T1) : Int := if e.fRepeats.length = 0 then 9 else if 20 < e.fRepeats.length then 2 else listF repF e.fRepeats
theorem w_elem (e : T1) : m17 e = some (elemF e) := by
  unfold m17 w6; dsimp only
  unfold elemF
  by_cases h0 : e.fRepeats.length = 0
  · have c : decide ((e.fRepeats.length : Int) = 0) = true := decide_eq_true (by omega)
    simp only [c, cond_true, if_pos h0]
  · have d0 : decide ((e.fRepeats.length : Int) = 0) = false := decide_eq_false (by omega)
    by_cases h1 : 20 < e.fRepeats.length
    · have d1 : decide ((20 : Int) < (e.fRepeats.length : Int)) = true := decide_eq_true (by omega)
      simp only [d0, d1, cond_true, cond_false, h0, h1, if_true, if_false]
    · have d1 : decide ((20 : Int) < (e.fRepeats.length : Int)) = false := decide_eq_false (by omega)
      simp only [d0, d1, cond_false, h0, h1, if_false]
      refine (loop_fault e.fRepeats repF (fun a => a) _ (fun i l he => ?_) ?_).trans ?_
      · have hi := get_le he
        simp only [lt_dec hi, cond_true, getI_nat, he, Option.bind_some, wrapN i (by omega), repF]
        by_cases g0 : l.length = 0
        · have c0 : decide ((l.length : Int) = 0) = true := decide_eq_true (by omega)
          simp only [c0, cond_true, if_pos g0]; rfl
        · have c0 : decide ((l.length : Int) = 0) = false := decide_eq_false (by omega)
          by_cases g1 : 20 < l.length
          · have c1 : decide ((20 : Int) < (l.length : Int)) = true := decide_eq_true (by omega)
            simp only [c0, c1, cond_true, cond_false, g0, g1, if_true, if_false]; rfl
          · have c1 : decide ((20 : Int) < (l.length : Int)) = false := decide_eq_false (by omega)
            simp only [c0, c1, cond_false, g0, g1, if_false]
            refine (loop_fault l textF (fun a => .inr (.inr a)) _ (fun j t ht => ?_) ?_).trans ?_
            · have hj := get_le ht
              simp only [lt_dec hj, cond_true, getI_nat, he, ht, Option.bind_some, wrapN j (by omega), w_text]
              by_cases hz : textF t = 0 <;> simp [hz, inrO]
            · simp only [getI_nat, he, Option.bind_some, lt_dec_self, cond_false]; rfl
            · split <;> rfl
      · simp only [lt_dec_self, cond_false]; rfl
      · split <;> simp_all
theorem r_elem (e : T1) : m13 e = some (elemF e) := by
  unfold m13 w4; dsimp only
  unfold elemF
  by_cases h0 : e.fRepeats.length = 0
  · have c : decide ((e.fRepeats.length : Int) = 0) = true := decide_eq_true (by omega)
    simp only [c, cond_true, if_pos h0]
  · have d0 : decide ((e.fRepeats.length : Int) = 0) = false := decide_eq_false (by omega)
    by_cases h1 : 20 < e.fRepeats.length
    · have d1 : decide ((20 : Int) < (e.fRepeats.length : Int)) = true := decide_eq_true (by omega)
      simp only [d0, d1, cond_true, cond_false, h0, h1, if_true, if_false]
    · have d1 : decide ((20 : Int) < (e.fRepeats.length : Int)) = false := decide_eq_false (by omega)
      simp only [d0, d1, cond_false, h0, h1, if_false]
      refine (loop_fault e.fRepeats repF (fun a => a) _ (fun i l he => ?_) ?_).trans ?_
      · have hi := get_le he
        simp only [lt_dec hi, cond_true, getI_nat, he, Option.bind_some, wrapN i (by omega), repF]
        by_cases g0 : l.length = 0
        · have c0 : decide ((l.length : Int) = 0) = true := decide_eq_true (by omega)
          simp only [c0, cond_true, if_pos g0]; rfl
        · have c0 : decide ((l.length : Int) = 0) = false := decide_eq_false (by omega)
          by_cases g1 : 20 < l.length
          · have c1 : decide ((20 : Int) < (l.length : Int)) = true := decide_eq_true (by omega)
            simp only [c0, c1, cond_true, cond_false, g0, g1, if_true, if_false]; rfl
          · have c1 : decide ((20 : Int) < (l.length : Int)) = false := decide_eq_false (by omega)
            simp only [c0, c1, cond_false, g0, g1, if_false]
            refine (loop_fault l textF (fun a => .inr (.inr a)) _ (fun j t ht => ?_) ?_).trans ?_
            · have hj := get_le ht
              simp only [lt_dec hj, cond_true, getI_nat, he, ht, Option.bind_some, wrapN j (by omega), r_text]
              by_cases hz : textF t = 0 <;> simp [hz, inrO]
            · simp only [getI_nat, he, Option.bind_some, lt_dec_self, cond_false]; rfl
            · split <;> rfl
      · simp only [lt_dec_self, cond_false]; rfl
      · split <;> simp_all
theorem dropWhile_nil {p : UInt8 → Bool} : ∀ {l : List UInt8}, l.dropWhile p = [] ↔ ∀ x ∈ l, p x = true
  | [] => by simp
  | a :: l => by
    rw [List.dropWhile_cons]
    by_cases h : p a = true
    · simp [h, dropWhile_nil (l := l)]
    · simp [h]
theorem dropWhile_head {p : UInt8 → Bool} {a : UInt8} {r : List UInt8} : ∀ {l : List UInt8}, l.dropWhile p = a :: r → p a = false
  | [], h => by simp at h
  | b :: l, h => by
    rw [List.dropWhile_cons] at h
    by_cases hp : p b = true
    · simp only [hp, if_true] at h; exact dropWhile_head h
    · simp only [hp] at h
      simp at h; rw [← h.1]; simpa using hp
theorem trim_nil (l cs : List UInt8) : Lib.trimS l cs = [] ↔ ∀ x ∈ l, cs.contains x = true := by
  unfold Lib.trimS Lib.trimLeftS Lib.trimRightS
  constructor
  · intro h
    have h1 : List.dropWhile (fun x => cs.contains x) l.reverse = [] := by
      cases hr : List.dropWhile (fun x => cs.contains x) l.reverse with
      | nil => rfl
      | cons a r =>
        exfalso
        have h2 := dropWhile_head hr
        rw [hr, dropWhile_nil] at h
        have h3 := h a (by simp)
        rw [h2] at h3; cases h3
    rw [dropWhile_nil] at h1
    intro x hx
    exact h1 x (by simpa using hx)
  · intro h
    have h1 : List.dropWhile (fun x => cs.contains x) l.reverse = [] := dropWhile_nil.2 fun x hx => h x (by simpa using hx)
    rw [h1]; rfl
def letB (b : UInt8) : Bool := decide (65 ≤ (b.toNat : Int)) && decide ((b.toNat : Int) ≤ 90)
def tagB (b : UInt8) : Bool := letB b || !(decide ((b.toNat : Int) < 48) || decide (57 < (b.toNat : Int)))
theorem tagB_all : (List.range 256).all (fun n => tagSet.contains (UInt8.ofNat n) == tagB (UInt8.ofNat n)) = true := by kernel_rfl
theorem tagB_eq (b : UInt8) : tagSet.contains b = tagB b := by
  have := List.all_eq_true.1 tagB_all b.toNat (List.mem_range.2 b.toNat_lt)
  have hb : UInt8.ofNat b.toNat = b := by simp
  rw [hb] at this
  simpa using this
def upper : List UInt8 := [65, 66, 67, 68, 69, 70, 71, 72, 73, 74, 75, 76, 77, 78, 79, 80, 81, 82, 83, 84, 85, 86, 87, 88, 89, 90]
theorem letB_all : (List.range 256).all (fun n => decide (0 ≤ Lib.indexByte upper (UInt8.ofNat n)) == letB (UInt8.ofNat n)) = true := by kernel_rfl
theorem letB_eq (b : UInt8) : decide (0 ≤ Lib.indexByte upper b) = letB b := by
  have := List.all_eq_true.1 letB_all b.toNat (List.mem_range.2 b.toNat_lt)
  have hb : UInt8.ofNat b.toNat = b := by simp
  rw [hb] at this
  simpa using this
theorem trim_tag (l : List UInt8) : decide (Lib.trimS l tagSet = []) = l.all tagB := by
  rw [Bool.eq_iff_iff, decide_eq_true_eq, trim_nil, List.all_eq_true]
  simp only [tagB_eq]
def tagF : List UInt8 → Bool
  | [] => false
  | b :: l => decide (1 ≤ l.length) && decide (l.length ≤ 5) && letB b && l.all tagB
theorem w_tag (l : List UInt8) (hl : l.length ≤ 9223372036854775807) : m14 l = some (tagF l) := by
  unfold m14 w5; dsimp only
  cases l with
  | nil => rfl
  | cons b l =>
    have hg : getI (b :: l) 0 = some b := rfl
    have hi : m100 upper b = some (Lib.indexByte upper b) := rfl
    have hu : ([65, 66, 67, 68, 69, 70, 71, 72, 73, 74, 75, 76, 77, 78, 79, 80, 81, 82, 83, 84, 85, 86, 87, 88, 89, 90] : List UInt8) = upper := rfl
    simp only [isTagPart_eq (b :: l) hl, trim_tag, hg, hu, hi, Option.bind_some, andO_some, letB_eq, tagF]
    have h1 : decide ((2 : Int) ≤ ((b :: l).length : Int)) = decide (1 ≤ l.length) := by simp only [List.length_cons]; congr 1; apply propext; omega
    have h2 : decide (((b :: l).length : Int) ≤ 6) = decide (l.length ≤ 5) := by simp only [List.length_cons]; congr 1; apply propext; omega
    rw [h1, h2]
    cases hb : letB b with
    | false => simp
    | true => simp [tagB, hb]
def tagI (i : Nat) (b : UInt8) : Bool := letB b || (decide (i ≠ 0) && tagB b)
theorem r_begins (l : List UInt8) (hl : l.length ≤ 9223372036854775807) : m8 l = some ((match l with | [] => true | b :: l => letB b && l.all tagB) && decide (l.length ≤ 6)) := by
  unfold m8 w3; dsimp only
  have key := loop_runI (f := fun s => bif decide (s < (l.length : Int)) then (getI l s).bind fun e => (andO (decide (65 ≤ (e.toNat : Int))) ((getI l s).bind fun e => some (decide ((e.toNat : Int) ≤ 90)))).bind fun v => (andO (!v) ((orO (decide (s = 0)) ((getI l s).bind fun e => some (decide ((e.toNat : Int) < 48)))).bind fun v => (orO v ((getI l s).bind fun e => some (decide (57 < (e.toNat : Int))))).bind fun v => some v)).bind fun v => bif v then inrO (inrO (some false)) else some (Sum.inl (IntKind.i64.wrap (s + 1))) else inrO (some (Sum.inl s)))
    l (fun i (_ : Unit) => (i : Int)) (fun i _ e => if tagI i e = true then some (.inl ()) else some (.inr (.inr false))) (fun _ => some (Sum.inl (l.length : Int))) (fun i e s he => ?_) (fun s => ?_) ()
  · rw [show ((0 : Nat) : Int) = 0 from rfl] at key
    rw [key]
    have h2 : ∀ (t : List UInt8) (i : Nat), 0 < i → runI (fun i (_ : Unit) e => if tagI i e = true then some (.inl ()) else some (.inr (.inr false))) (fun _ => some (Sum.inl (l.length : Int))) t i () = if t.all tagB = true then some (Sum.inl (l.length : Int)) else some (.inr false) := by
      intro t
      induction t with
      | nil => intro i _; rfl
      | cons b t ih =>
        intro i hi
        simp only [runI]
        have : tagI i b = tagB b := by
          unfold tagI
          rw [decide_eq_true (show i ≠ 0 by omega), Bool.true_and]
          unfold tagB
          cases letB b <;> simp
        rw [this]
        cases hb : tagB b with
        | true => simp only [if_true, ih (i + 1) (by omega), List.all_cons, hb, Bool.true_and]
        | false => simp [hb]
    cases l with
    | nil => rfl
    | cons b l =>
      simp only [runI]
      have h3 : tagI 0 b = letB b := by unfold tagI; cases letB b <;> simp
      have h4 : decide (((b :: l).length : Int) ≤ 6) = decide ((b :: l).length ≤ 6) := by congr 1; apply propext; omega
      rw [h3]
      cases hb : letB b with
      | false => simp [outK, hb]
      | true =>
        simp only [if_true]
        rw [h2 l 1 (by omega)]
        cases hl : l.all tagB with
        | true => simp [outK, hb, h4]; omega
        | false => simp [outK, hb]
  · have hi := get_le he
    simp only [lt_dec hi, cond_true, getI_nat, he, Option.bind_some, andO_some, orO_some, wrapN i (by omega)]
    have h0 : decide ((i : Int) = 0) = decide (i = 0) := by congr 1; apply propext; omega
    have h1 : (!(decide (65 ≤ (e.toNat : Int)) && decide ((e.toNat : Int) ≤ 90)) && (decide ((i : Int) = 0) || decide ((e.toNat : Int) < 48) || decide (57 < (e.toNat : Int)))) = !tagI i e := by
      rw [h0]
      unfold tagI tagB letB
      cases decide (65 ≤ (e.toNat : Int)) <;> cases decide ((e.toNat : Int) ≤ 90) <;> by_cases hi0 : i = 0 <;> simp [hi0]
    rw [h1]
    cases tagI i e <;> rfl
  · simp only [lt_dec_self, cond_false]; rfl
theorem r_tag (l : List UInt8) (hl : l.length ≤ 9223372036854775807) : m12 l = some (tagF l) := by
  unfold m12 w4; dsimp only
  simp only [r_begins l hl, Option.bind_some, andO_some]
  cases l with
  | nil => rfl
  | cons b l =>
    have h1 : decide ((2 : Int) ≤ ((b :: l).length : Int)) = decide (1 ≤ l.length) := by simp only [List.length_cons]; congr 1; apply propext; omega
    have h2 : decide ((b :: l).length ≤ 6) = decide (l.length ≤ 5) := by simp only [List.length_cons]; congr 1; apply propext; omega
    rw [h1, h2]
    simp only [tagF]
    cases letB b <;> cases l.all tagB <;> simp
def segF (s : T2) : Int := if tagF s.fTag = false then 5 else if 50 < s.fElements.length then 2 else listF elemF s.fElements
def segsF (l : List T2) : Int := if 2000 < l.length then 2 else listF segF l
def TagsShort (l : List T2) : Prop := ∀ s ∈ l, s.fTag.length ≤ 9223372036854775807
theorem r_one (s : T2) (hs : s.fTag.length ≤ 9223372036854775807) : m16 s = some (segF s) := by
  unfold m16 w5; dsimp only
  unfold segF
  rw [r_tag s.fTag hs]
  simp only [Option.bind_some]
  cases ht : tagF s.fTag with
  | false => simp
  | true =>
    simp only [Bool.not_true, cond_false, Bool.true_eq_false, if_false]
    by_cases h1 : 50 < s.fElements.length
    · have d1 : decide ((50 : Int) < (s.fElements.length : Int)) = true := decide_eq_true (by omega)
      simp only [d1, cond_true, h1, if_true]
    · have d1 : decide ((50 : Int) < (s.fElements.length : Int)) = false := decide_eq_false (by omega)
      simp only [d1, cond_false, h1, if_false]
      refine (loop_fault s.fElements elemF (fun a => a) _ (fun i e he => ?_) ?_).trans ?_
      · have hi := get_le he
        simp only [lt_dec hi, cond_true, getI_nat, he, Option.bind_some, wrapN i (by omega), r_elem]
        by_cases hz : elemF e = 0 <;> simp [hz, inrO]
      · simp only [lt_dec_self, cond_false]; rfl
      · split <;> simp_all
theorem r_segs (l : List T2) (hs : TagsShort l) : m18 l = some (segsF l) := by
  unfold m18 w6; dsimp only
  unfold segsF
  by_cases h1 : 2000 < l.length
  · have d1 : decide ((2000 : Int) < (l.length : Int)) = true := decide_eq_true (by omega)
    simp only [d1, cond_true, h1, if_true]
  · have d1 : decide ((2000 : Int) < (l.length : Int)) = false := decide_eq_false (by omega)
    simp only [d1, cond_false, h1, if_false]
    refine (loop_fault l segF (fun a => a) _ (fun i e he => ?_) ?_).trans ?_
    · have hi := get_le he
      simp only [lt_dec hi, cond_true, getI_nat, he, Option.bind_some, wrapN i (by omega), r_one e (hs e (List.mem_of_getElem? he))]
      by_cases hz : segF e = 0 <;> simp [hz, inrO]
    · simp only [lt_dec_self, cond_false]; rfl
    · split <;> simp_all
theorem w_segs (l : List T2) (hs : TagsShort l) : m19 l = some (segsF l) := by
  unfold m19 w7; dsimp only
  unfold segsF
  by_cases h1 : 2000 < l.length
  · have d1 : decide ((2000 : Int) < (l.length : Int)) = true := decide_eq_true (by omega)
    simp only [d1, cond_true, h1, if_true]
  · have d1 : decide ((2000 : Int) < (l.length : Int)) = false := decide_eq_false (by omega)
    simp only [d1, cond_false, h1, if_false]
    refine (loop_fault l segF (fun a => a) _ (fun i s hes => ?_) ?_).trans ?_
    · have hi := get_le hes
      have hst := hs s (List.mem_of_getElem? hes)
      simp only [lt_dec hi, cond_true, getI_nat, hes, Option.bind_some, wrapN i (by omega), w_tag s.fTag (by omega), segF]
      by_cases ht : tagF s.fTag = false
      · simp [ht, inrO]
      · replace ht : tagF s.fTag = true := by simpa using ht
        simp only [ht, Bool.not_true, cond_false, Bool.true_eq_false, if_false]
        by_cases h1 : 50 < s.fElements.length
        · have d1 : decide ((50 : Int) < (s.fElements.length : Int)) = true := decide_eq_true (by omega)
          simp only [d1, cond_true, h1, if_true]; rfl
        · have d1 : decide ((50 : Int) < (s.fElements.length : Int)) = false := decide_eq_false (by omega)
          simp only [d1, cond_false, h1, if_false]
          refine (loop_fault s.fElements elemF (fun a => .inr (.inr a)) _ (fun i e he => ?_) ?_).trans ?_
          · have hi := get_le he
            simp only [lt_dec hi, cond_true, getI_nat, he, Option.bind_some, wrapN i (by omega), w_elem]
            by_cases hz : elemF e = 0 <;> simp [hz, inrO]
          · simp only [lt_dec_self, cond_false]; rfl
          · split <;> rfl
    · simp only [lt_dec_self, cond_false]; rfl
    · split <;> simp_all
end Go.Proofs.YthailknfgcegoaaGreatDoor

/-
  Plain laws: numbers, references, and the checks of a book.
-/
namespace Go.Proofs.YthailknfgcegoaaGreatDoor
set_option linter.unusedSimpArgs false
set_option linter.unusedVariables false
open Go.RowKit
def outside (n lo hi : Int) : Bool := decide (n < lo) || decide (hi < n)
theorem outside_eq (n lo hi : Int) : m21 n lo hi = some (outside n lo hi) := by
  unfold m21 w9; dsimp only
  simp only [orO_some, Option.bind_some, outside]
theorem within_eq (n lo hi : Int) : m52 n lo hi = some (!outside n lo hi) := by
  unfold m52 w14; dsimp only
  simp only [andO_some, Option.bind_some, outside]
  congr 1; rw [Bool.eq_iff_iff]; simp
def isVerdict (n : Int) : Bool := !outside n 1 3
theorem isVerdict_eq (n : Int) : m54 n = some (isVerdict n) := by
  unfold m54 w15; dsimp only
  simp only [outside_eq, Option.bind_some, isVerdict]
theorem isVerdictR_eq (n : Int) : m60 n = some (isVerdict n) := by
  unfold m60 w15; dsimp only
  simp only [within_eq, Option.bind_some, isVerdict]
def refSet : List UInt8 := [65, 66, 67, 68, 69, 70, 71, 72, 73, 74, 75, 76, 77, 78, 79, 80, 81, 82, 83, 84, 85, 86, 87, 88, 89, 90, 48, 49, 50, 51, 52, 53, 54, 55, 56, 57, 45]
theorem dropWhile_nilP {p : UInt8 → Bool} : ∀ {l : List UInt8}, l.dropWhile p = [] ↔ ∀ x ∈ l, p x = true
  | [] => by simp
  | a :: l => by
    rw [List.dropWhile_cons]
    by_cases h : p a = true
    · simp [h, dropWhile_nilP (l := l)]
    · simp [h]
theorem dropWhile_headP {p : UInt8 → Bool} {a : UInt8} {r : List UInt8} : ∀ {l : List UInt8}, l.dropWhile p = a :: r → p a = false
  | [], h => by simp at h
  | b :: l, h => by
    rw [List.dropWhile_cons] at h
    by_cases hp : p b = true
    · simp only [hp, if_true] at h; exact dropWhile_headP h
    · simp only [hp] at h
      simp at h; rw [← h.1]; simpa using hp
theorem trim_nilP (l cs : List UInt8) : Lib.trimS l cs = [] ↔ ∀ x ∈ l, cs.contains x = true := by
  unfold Lib.trimS Lib.trimLeftS Lib.trimRightS
  constructor
  · intro h
    have h1 : List.dropWhile (fun x => cs.contains x) l.reverse = [] := by
      cases hr : List.dropWhile (fun x => cs.contains x) l.reverse with
      | nil => rfl
      | cons a r =>
        exfalso
        have h2 := dropWhile_headP hr
        rw [hr, dropWhile_nilP] at h
        have h3 := h a (by simp)
        rw [h2] at h3; cases h3
    rw [dropWhile_nilP] at h1
    intro x hx
    exact h1 x (by simpa using hx)
  · intro h
    have h1 : List.dropWhile (fun x => cs.contains x) l.reverse = [] := dropWhile_nilP.2 fun x hx => h x (by simpa using hx)
    rw [h1]; rfl
def refByte (b : UInt8) : Bool := refSet.contains b
def isRef (s : List UInt8) : Bool := decide (1 ≤ s.length ∧ s.length ≤ 14) && s.all refByte
theorem trim_all (s : List UInt8) : decide (Lib.trimS s refSet = []) = s.all refByte := by
  rw [Bool.eq_iff_iff, decide_eq_true_eq, trim_nilP, List.all_eq_true]; rfl
theorem refByte_eq (b : UInt8) : refByte b = decide ((65 ≤ b.toNat ∧ b.toNat ≤ 90) ∨ (48 ≤ b.toNat ∧ b.toNat ≤ 57) ∨ b.toNat = 45) := by
  have h : ∀ n, n < 256 → refByte (UInt8.ofNat n) = decide ((65 ≤ n ∧ n ≤ 90) ∨ (48 ≤ n ∧ n ≤ 57) ∨ n = 45) := by decide +kernel
  have := h b.toNat b.toNat_lt
  simpa using this
theorem trim_eq (s : List UInt8) (hs : s.length ≤ 9223372036854775807) : m101 s refSet = some (Lib.trimS s refSet) := by
  unfold m101
  rw [if_pos ⟨hs, by decide, by decide⟩]
theorem isRef_eq (s : List UInt8) (hs : s.length ≤ 9223372036854775807) : m33 s = some (isRef s) := by
  have ht := trim_eq s hs
  have ha := trim_all s
  unfold refSet at ht ha
  unfold m33 w10; dsimp only
  simp only [ht, Option.bind_some, ha, andO_some]
  congr 1; unfold isRef
  rw [Bool.eq_iff_iff]; simp; omega
theorem all_take_succ {p : UInt8 → Bool} {l : List UInt8} {i : Nat} {b : UInt8} (hb : l[i]? = some b) (h : (l.take i).all p = true) (hp : p b = true) : (l.take (i + 1)).all p = true := by
  rw [List.take_add_one, hb]; simp only [Option.toList_some, List.all_append, h, List.all_cons, hp]; rfl
theorem all_not {p : UInt8 → Bool} {l : List UInt8} {i : Nat} {b : UInt8} (hb : l[i]? = some b) (hp : p b = false) : l.all p = false := by
  rw [List.all_eq_false]; exact ⟨b, List.mem_of_getElem? hb, by simp [hp]⟩
theorem isReference_eq (s : List UInt8) (hs : s.length ≤ 9223372036854775807) : m30 s = some (isRef s) := by
  unfold m30 w9; dsimp only
  generalize hf : (fun s_1 : Int => _) = f
  obtain ⟨a, ha, hp⟩ := loopC_inv (f := f) (fun i => ∃ k : Nat, i = k ∧ k ≤ s.length ∧ (s.take k).all refByte = true) (fun i => (s.length - i).toNat)
    (fun o => match o with | .inl _ => s.all refByte = true | .inr b => b = false ∧ s.all refByte = false) (s := 0) (by
      rintro _ ⟨k, rfl, hk, hall⟩
      subst hf
      by_cases hlt : k < s.length
      · obtain ⟨c, hc⟩ : ∃ c, s[k]? = some c := ⟨_, List.getElem?_eq_getElem hlt⟩
        have hb := refByte_eq c
        have hd : decide ((k : Int) < s.length) = true := by simpa using hlt
        simp only [hd, cond_true, getI_nat, hc, Option.bind_some, andO_some, orO_some]
        cases hr : refByte c with
        | true =>
          refine .inl ⟨((k + 1 : Nat) : Int), ?_, ⟨k + 1, rfl, hlt, all_take_succ hc hall hr⟩, by omega⟩
          rw [hr] at hb
          rw [wrapN k (by omega)]
          have : (!(decide (65 ≤ (c.toNat : Int)) && decide ((c.toNat : Int) ≤ 90) || decide (48 ≤ (c.toNat : Int)) && decide ((c.toNat : Int) ≤ 57) || decide ((c.toNat : Int) = 45))) = false := by
            simp at hb ⊢; omega
          rw [this]; rfl
        | false =>
          refine .inr ⟨.inr false, ?_, rfl, all_not hc hr⟩
          rw [hr] at hb
          have : (!(decide (65 ≤ (c.toNat : Int)) && decide ((c.toNat : Int) ≤ 90) || decide (48 ≤ (c.toNat : Int)) && decide ((c.toNat : Int) ≤ 57) || decide ((c.toNat : Int) = 45))) = true := by
            simp at hb ⊢; omega
          rw [this]; rfl
      · have hd : decide ((k : Int) < s.length) = false := by simpa using hlt
        refine .inr ⟨.inl k, ?_, ?_⟩
        · simp only [hd, cond_false]; rfl
        · rw [List.take_of_length_le (by omega)] at hall; exact hall) ⟨0, rfl, by omega, by simp⟩
  rw [ha]
  cases a with
  | inl i =>
    simp only [Option.bind_some, outK, andO_some, isRef, hp, Bool.and_true]
    congr 1; rw [Bool.eq_iff_iff]; cases s <;> simp <;> omega
  | inr b => obtain ⟨rfl, h⟩ := hp; simp only [Option.bind_some, outK, isRef, h, Bool.and_false]
end Go.Proofs.YthailknfgcegoaaGreatDoor

/-
  Plain laws: the checks of a book.
-/
namespace Go.Proofs.YthailknfgcegoaaGreatDoor
set_option linter.unusedSimpArgs false
set_option linter.unusedVariables false
open Go.RowKit
def firstF (f : Nat → Int) : Nat → Nat → Int
  | _, 0 => 0
  | i, n + 1 => if f i ≠ 0 then f i else firstF f (i + 1) n
theorem firstF_skip {f : Nat → Int} : ∀ (i n k : Nat), k ≤ n → (∀ j, i ≤ j → j < i + k → f j = 0) → firstF f i n = firstF f (i + k) (n - k)
  | i, n, 0, _, _ => by simp
  | i, 0, k + 1, h, _ => by omega
  | i, n + 1, k + 1, h, hz => by
    have h1 := hz i (by omega) (by omega)
    simp only [firstF, h1, ne_eq, not_true_eq_false, if_false]
    rw [firstF_skip (i + 1) n k (by omega) (fun j hj hj' => hz j (by omega) (by omega))]
    congr 1 <;> omega
theorem sliceI_take {α : Type} (l : List α) (n : Nat) (h : n ≤ l.length) : sliceI l 0 (n : Int) = some (l.take n) := by
  unfold sliceI
  rw [if_pos (by omega)]; simp
end Go.Proofs.YthailknfgcegoaaGreatDoor

/-
  Plain laws: names, and loops that end at the first fault.
-/
namespace Go.Proofs.YthailknfgcegoaaGreatDoor
set_option linter.unusedSimpArgs false
set_option linter.unusedVariables false
open Go.RowKit
abbrev MX : Nat := 9223372036854775807
theorem loop_fS {S : Type} (st : Nat → S) {n : Nat} {g : Nat → Int} {f : S → Option (S ⊕ (S ⊕ Int))} (hf : ∀ i, i < n → f (st i) = if g i = 0 then some (.inl (st (i + 1))) else some (.inr (.inr (g i))))
    (he : f (st n) = some (.inr (.inl (st n)))) (K : S → Option Int) : (loopC f (st 0)).bind (outK K) = if firstF g 0 n = 0 then K (st n) else some (firstF g 0 n) := by
  have h := loop_first (f := f) (z := .inl (st n)) st n (fun i => if g i = 0 then none else some (.inr (g i))) (fun i hi hg => by
    rw [hf i hi]
    by_cases hz : g i = 0
    · rw [if_pos hz]
    · simp only [hz, if_false] at hg; cases hg) (fun i a hi hg => by
    rw [hf i hi]
    by_cases hz : g i = 0
    · simp only [hz, if_true] at hg; cases hg
    · simp only [hz, if_false, Option.some.injEq] at hg; rw [if_neg hz, hg]) he
  rw [h]
  rcases firstS_cases (fun i => if g i = 0 then (none : Option (S ⊕ Int)) else some (.inr (g i))) n with ⟨h1, h2⟩ | ⟨k, a, h1, h2, h3, h4⟩
  · have : firstF g 0 n = 0 := by
      rw [firstF_skip 0 n n (by omega) (fun j _ hj => by
        have := h2 j (by omega)
        by_cases hz : g j = 0
        · exact hz
        · simp only [hz, if_false] at this; cases this)]
      simp [firstF]
    rw [h1, if_pos this]; rfl
  · have hz : g k ≠ 0 := by intro hz; simp only [hz, if_true] at h3; cases h3
    have : firstF g 0 n = g k := by
      rw [firstF_skip 0 n k (by omega) (fun j _ hj => by
        have := h2 j (by omega)
        by_cases hz : g j = 0
        · exact hz
        · simp only [hz, if_false] at this; cases this)]
      obtain ⟨m, hm⟩ : ∃ m, n - k = m + 1 := ⟨n - k - 1, by omega⟩
      rw [hm, Nat.zero_add]
      simp only [firstF, hz, ne_eq, not_false_eq_true, if_true]
    rw [h4, this, if_neg hz]
    simp only [hz, if_false, Option.some.injEq] at h3
    rw [← h3]; rfl
def anyAt {α : Type} (l : List α) (q : α → Bool) (c : Int) (k : Nat) : Int := match l[k]? with | some o => if q o = true then c else 0 | none => 0
theorem firstF_any {α : Type} (l : List α) (q : α → Bool) (c : Int) (hc : c ≠ 0) (i : Nat) (hi : i ≤ l.length) :
    firstF (anyAt l q c) 0 i = if (l.take i).any q = true then c else 0 := by
  have : ∀ d k, k + d = i → firstF (anyAt l q c) k d = if ((l.take i).drop k).any q = true then c else 0 := by
    intro d
    induction d with
    | zero =>
      intro k hk
      have : (l.take i).drop k = [] := List.drop_eq_nil_of_le (by rw [List.length_take]; omega)
      rw [this]; simp [firstF]
    | succ d ih =>
      intro k hk
      obtain ⟨e, he⟩ := get_lt (l := l) (i := k) (by omega)
      have ht : (l.take i)[k]? = some e := by rw [List.getElem?_take_of_lt (by omega), he]
      have hd : (l.take i).drop k = e :: (l.take i).drop (k + 1) := by
        have hlt := get_le ht
        rw [List.drop_eq_getElem_cons hlt]
        congr 1
        rw [List.getElem?_eq_getElem hlt] at ht; simpa using ht
      simp only [firstF, anyAt, he]
      rw [hd, List.any_cons, ih (k + 1) (by omega)]
      cases hq : q e <;> simp [hc]
  have := this i 0 (by omega)
  simpa using this
theorem prev_eq {α : Type} (l : List α) (i : Nat) {p : α} (hp : l[i - 1]? = some p) (hl : l.length ≤ MX) (hi : i < l.length) (c : α → Option Bool) {b : Bool} (hb : c p = some b) :
    andO (decide (0 < (i : Int))) ((getI l (IntKind.i64.wrap ((i : Int) - 1))).bind c) = some (decide (0 < i) && b) := by
  unfold MX at hl
  by_cases h0 : 0 < i
  · have : IntKind.i64.wrap ((i : Int) - 1) = ((i - 1 : Nat) : Int) := by rw [wrap64 _ (by omega) (by omega)]; omega
    rw [this, getI_nat, hp, Option.bind_some, hb, andO_some]; simp
  · simp [andO, h0]
def lowB (b : UInt8) : Bool := decide (97 ≤ (b.toNat : Int)) && decide ((b.toNat : Int) ≤ 122)
def nameB (b : UInt8) : Bool := lowB b || (decide ((b.toNat : Int) = 45) || (decide (48 ≤ (b.toNat : Int)) && decide ((b.toNat : Int) ≤ 57)))
def nameSet : List UInt8 := [97, 98, 99, 100, 101, 102, 103, 104, 105, 106, 107, 108, 109, 110, 111, 112, 113, 114, 115, 116, 117, 118, 119, 120, 121, 122, 48, 49, 50, 51, 52, 53, 54, 55, 56, 57, 45]
theorem nameB_all : (List.range 256).all (fun n => nameSet.contains (UInt8.ofNat n) == nameB (UInt8.ofNat n)) = true := by decide +kernel
theorem nameB_eq (b : UInt8) : nameSet.contains b = nameB b := by
  have := List.all_eq_true.1 nameB_all b.toNat (List.mem_range.2 b.toNat_lt)
  have hb : UInt8.ofNat b.toNat = b := by simp
  rw [hb] at this
  simpa using this
theorem trim_name (l : List UInt8) : decide (Lib.trimS l nameSet = []) = l.all nameB := by
  rw [Bool.eq_iff_iff, decide_eq_true_eq, trim_nil, List.all_eq_true]
  simp only [nameB_eq]
def nameF : List UInt8 → Bool
  | [] => false
  | b :: l => decide (l.length ≤ 39) && lowB b && l.all nameB
theorem w_name (l : List UInt8) (hl : l.length ≤ MX) : m34 l = some (nameF l) := by
  have ht : m101 l nameSet = some (Lib.trimS l nameSet) := by
    unfold m101
    rw [if_pos ⟨hl, by decide, by decide⟩]
  have hu : ([97, 98, 99, 100, 101, 102, 103, 104, 105, 106, 107, 108, 109, 110, 111, 112, 113, 114, 115, 116, 117, 118, 119, 120, 121, 122, 48, 49, 50, 51, 52, 53, 54, 55, 56, 57, 45] : List UInt8) = nameSet := rfl
  unfold m34 w10; dsimp only
  rw [hu]
  cases l with
  | nil => rfl
  | cons b l =>
    have hg : getI (b :: l) 0 = some b := rfl
    simp only [hg, Option.bind_some, orO_some, ht, trim_name, nameF]
    have h1 : decide (((b :: l).length : Int) < 1) = false := by simp only [List.length_cons]; apply decide_eq_false; omega
    have h2 : decide (40 < ((b :: l).length : Int)) = !decide (l.length ≤ 39) := by simp only [List.length_cons]; rw [Bool.eq_iff_iff]; simp <;> omega
    have h3 : (decide ((b.toNat : Int) < 97) || decide (122 < (b.toNat : Int))) = !lowB b := by unfold lowB; rw [Bool.eq_iff_iff]; simp
    rw [h1, h2, Bool.false_or, Bool.or_assoc, h3]
    cases hb : lowB b with
    | false => simp
    | true => cases decide (l.length ≤ 39) <;> simp [nameB, hb]
def nameI (i : Nat) (b : UInt8) : Bool := lowB b || (decide (i ≠ 0) && nameB b)
theorem r_name (l : List UInt8) (hl : l.length ≤ MX) : m31 l = some (nameF l) := by
  unfold MX at hl
  unfold m31 w9; dsimp only
  generalize hf : (fun s : Int => _) = f
  have key := loop_runI (f := f) l (fun i (_ : Unit) => (i : Int)) (fun i _ e => if nameI i e = true then some (.inl ()) else some (.inr (.inr false))) (fun _ => some (Sum.inl (l.length : Int))) (fun i e s he => by
    subst hf
    have hi := get_le he
    simp only [lt_dec hi, cond_true, getI_nat, he, Option.bind_some, andO_some, orO_some, wrapN i (by omega)]
    have h0 : decide ((i : Int) = 0) = decide (i = 0) := by congr 1; apply propext; omega
    have h1 : (!(decide (97 ≤ (e.toNat : Int)) && decide ((e.toNat : Int) ≤ 122)) && (decide ((i : Int) = 0) || (!decide ((e.toNat : Int) = 45) && !(decide (48 ≤ (e.toNat : Int)) && decide ((e.toNat : Int) ≤ 57))))) = !nameI i e := by
      rw [h0]
      unfold nameI nameB lowB
      cases decide (97 ≤ (e.toNat : Int)) <;> cases decide ((e.toNat : Int) ≤ 122) <;> by_cases hi0 : i = 0 <;> simp [hi0]
    rw [h1]
    cases nameI i e <;> rfl) (fun s => by
    subst hf
    simp only [lt_dec_self, cond_false]; rfl) ()
  rw [show ((0 : Nat) : Int) = 0 from rfl] at key
  rw [key]
  have h2 : ∀ (t : List UInt8) (i : Nat), 0 < i → runI (fun i (_ : Unit) e => if nameI i e = true then some (.inl ()) else some (.inr (.inr false))) (fun _ => some (Sum.inl (l.length : Int))) t i () = if t.all nameB = true then some (.inl (l.length : Int)) else some (.inr false) := by
    intro t
    induction t with
    | nil => intro i _; rfl
    | cons b t ih =>
      intro i hi
      simp only [runI]
      have : nameI i b = nameB b := by
        unfold nameI
        rw [decide_eq_true (show i ≠ 0 by omega), Bool.true_and]
        unfold nameB
        cases lowB b <;> simp
      rw [this]
      cases hb : nameB b with
      | true => simp only [if_true, ih (i + 1) (by omega), List.all_cons, hb, Bool.true_and]
      | false => simp [hb]
  cases l with
  | nil => rfl
  | cons b l =>
    simp only [runI]
    have h3 : nameI 0 b = lowB b := by unfold nameI; cases lowB b <;> simp
    have h4 : decide (((b :: l).length : Int) ≤ 40) = decide (l.length ≤ 39) := by simp only [List.length_cons]; rw [Bool.eq_iff_iff]; simp; omega
    rw [h3]
    cases hb : lowB b with
    | false => simp [outK, hb, nameF]
    | true =>
      simp only [if_true]
      rw [h2 l 1 (by omega)]
      cases hl : l.all nameB with
      | true => simp [outK, hb, hl, nameF, andO_some]; try omega
      | false => simp [outK, hb, hl, nameF]
end Go.Proofs.YthailknfgcegoaaGreatDoor

/-
  Plain laws of the replies: CheckReply on both sides.
-/
namespace Go.Proofs.YthailknfgcegoaaGreatDoor
set_option linter.unusedSimpArgs false
set_option linter.unusedVariables false
open Go.RowKit
abbrev Fl := T7
abbrev Mr := T8
abbrev Gr := T9
abbrev Rp := T10
structure MsgOk (m : Mr) : Prop where
  ref : m.fRef.length ≤ MX
  flaws : m.fFlaws.length ≤ MX
  names : ∀ f ∈ m.fFlaws, f.fName.length ≤ MX
  fails : m.fFailing.length ≤ MX
  fail : ∀ s ∈ m.fFailing, s.length ≤ MX
structure GrpOk (g : Gr) : Prop where
  ref : g.fRef.length ≤ MX
  len : g.fMessages.length ≤ 1048576
  msg : ∀ m ∈ g.fMessages, MsgOk m
structure RepOk (r : Rp) : Prop where
  ref : r.fRef.length ≤ MX
  len : r.fGroups.length ≤ MX
  grp : ∀ g ∈ r.fGroups, GrpOk g
theorem anyG_eq (l : List Gr) (hl : l.length ≤ MX) (f1 : FuncId) (c1 : List DV) (p1 : Gr → Option Bool) (h1) (q : Gr → Bool) (hq : ∀ a, p1 a = some (q a)) :
    m55 l f1 c1 p1 h1 = some (l.any q) := by
  unfold MX at hl
  unfold m55 w15; dsimp only
  unfold m47 w14; dsimp only
  generalize hf : (fun s : Int => _) = f
  have key := loop_first (f := f) (z := .inl (l.length : Int)) (fun i : Nat => (i : Int)) l.length (fun i => match l[i]? with | some o => if q o = true then some (.inr (i : Int)) else none | none => none) (fun i hi hg => by
    subst hf
    obtain ⟨e, he⟩ := get_lt hi
    simp only [he] at hg
    cases hb : q e with
    | true => simp [hb] at hg
    | false => simp only [lt_dec hi, cond_true, getI_nat, he, Option.bind_some, hq, hb, cond_false, wrapN i (by omega)]) (fun i a hi hg => by
    subst hf
    obtain ⟨e, he⟩ := get_lt hi
    simp only [he] at hg
    cases hb : q e with
    | false => simp [hb] at hg
    | true =>
      simp only [hb, if_true, Option.some.injEq] at hg
      simp only [lt_dec hi, cond_true, getI_nat, he, Option.bind_some, hq, hb, ← hg]; rfl) (by
    subst hf
    simp only [lt_dec_self, cond_false]; rfl)
  rw [show ((0 : Nat) : Int) = 0 from rfl] at key
  rw [key]
  rcases firstS_cases (fun i => match l[i]? with | some o => if q o = true then some (.inr (i : Int)) else none | none => (none : Option (Int ⊕ Int))) l.length with ⟨h1, h2⟩ | ⟨k, a, h1, h2, h3, h4⟩
  · rw [h1]
    have : l.any q = false := by
      rw [List.any_eq_false]
      intro x hx
      obtain ⟨i, hi, rfl⟩ := List.mem_iff_getElem.1 hx
      have := h2 i hi
      simp only [List.getElem?_eq_getElem hi] at this
      intro hb; simp [hb] at this
    rw [this]; rfl
  · rw [h4]
    obtain ⟨e, he⟩ := get_lt h1
    simp only [he] at h3
    cases hb : q e with
    | false => simp [hb] at h3
    | true =>
      simp only [hb, if_true, Option.some.injEq] at h3
      have : l.any q = true := List.any_eq_true.2 ⟨e, List.mem_of_getElem? he, hb⟩
      rw [this, ← h3]
      simp [outK]
theorem anyM_eq (l : List Mr) (hl : l.length ≤ MX) (f1 : FuncId) (c1 : List DV) (p1 : Mr → Option Bool) (h1) (q : Mr → Bool) (hq : ∀ a, p1 a = some (q a)) :
    m56 l f1 c1 p1 h1 = some (l.any q) := by
  unfold MX at hl
  unfold m56 w15; dsimp only
  unfold m49 w14; dsimp only
  generalize hf : (fun s : Int => _) = f
  have key := loop_first (f := f) (z := .inl (l.length : Int)) (fun i : Nat => (i : Int)) l.length (fun i => match l[i]? with | some o => if q o = true then some (.inr (i : Int)) else none | none => none) (fun i hi hg => by
    subst hf
    obtain ⟨e, he⟩ := get_lt hi
    simp only [he] at hg
    cases hb : q e with
    | true => simp [hb] at hg
    | false => simp only [lt_dec hi, cond_true, getI_nat, he, Option.bind_some, hq, hb, cond_false, wrapN i (by omega)]) (fun i a hi hg => by
    subst hf
    obtain ⟨e, he⟩ := get_lt hi
    simp only [he] at hg
    cases hb : q e with
    | false => simp [hb] at hg
    | true =>
      simp only [hb, if_true, Option.some.injEq] at hg
      simp only [lt_dec hi, cond_true, getI_nat, he, Option.bind_some, hq, hb, ← hg]; rfl) (by
    subst hf
    simp only [lt_dec_self, cond_false]; rfl)
  rw [show ((0 : Nat) : Int) = 0 from rfl] at key
  rw [key]
  rcases firstS_cases (fun i => match l[i]? with | some o => if q o = true then some (.inr (i : Int)) else none | none => (none : Option (Int ⊕ Int))) l.length with ⟨h1, h2⟩ | ⟨k, a, h1, h2, h3, h4⟩
  · rw [h1]
    have : l.any q = false := by
      rw [List.any_eq_false]
      intro x hx
      obtain ⟨i, hi, rfl⟩ := List.mem_iff_getElem.1 hx
      have := h2 i hi
      simp only [List.getElem?_eq_getElem hi] at this
      intro hb; simp [hb] at this
    rw [this]; rfl
  · rw [h4]
    obtain ⟨e, he⟩ := get_lt h1
    simp only [he] at h3
    cases hb : q e with
    | false => simp [hb] at h3
    | true =>
      simp only [hb, if_true, Option.some.injEq] at h3
      have : l.any q = true := List.any_eq_true.2 ⟨e, List.mem_of_getElem? he, hb⟩
      rw [this, ← h3]
      simp [outK]
theorem anyI_eq (l : List Int) (hl : l.length ≤ MX) (f1 : FuncId) (c1 : List DV) (p1 : Int → Option Bool) (h1) (q : Int → Bool) (hq : ∀ a, p1 a = some (q a)) :
    m59 l f1 c1 p1 h1 = some (l.any q) := by
  unfold MX at hl
  unfold m59 w15; dsimp only
  unfold m51 w14; dsimp only
  generalize hf : (fun s : Int => _) = f
  have key := loop_first (f := f) (z := .inl (l.length : Int)) (fun i : Nat => (i : Int)) l.length (fun i => match l[i]? with | some o => if q o = true then some (.inr (i : Int)) else none | none => none) (fun i hi hg => by
    subst hf
    obtain ⟨e, he⟩ := get_lt hi
    simp only [he] at hg
    cases hb : q e with
    | true => simp [hb] at hg
    | false => simp only [lt_dec hi, cond_true, getI_nat, he, Option.bind_some, hq, hb, cond_false, wrapN i (by omega)]) (fun i a hi hg => by
    subst hf
    obtain ⟨e, he⟩ := get_lt hi
    simp only [he] at hg
    cases hb : q e with
    | false => simp [hb] at hg
    | true =>
      simp only [hb, if_true, Option.some.injEq] at hg
      simp only [lt_dec hi, cond_true, getI_nat, he, Option.bind_some, hq, hb, ← hg]; rfl) (by
    subst hf
    simp only [lt_dec_self, cond_false]; rfl)
  rw [show ((0 : Nat) : Int) = 0 from rfl] at key
  rw [key]
  rcases firstS_cases (fun i => match l[i]? with | some o => if q o = true then some (.inr (i : Int)) else none | none => (none : Option (Int ⊕ Int))) l.length with ⟨h1, h2⟩ | ⟨k, a, h1, h2, h3, h4⟩
  · rw [h1]
    have : l.any q = false := by
      rw [List.any_eq_false]
      intro x hx
      obtain ⟨i, hi, rfl⟩ := List.mem_iff_getElem.1 hx
      have := h2 i hi
      simp only [List.getElem?_eq_getElem hi] at this
      intro hb; simp [hb] at this
    rw [this]; rfl
  · rw [h4]
    obtain ⟨e, he⟩ := get_lt h1
    simp only [he] at h3
    cases hb : q e with
    | false => simp [hb] at h3
    | true =>
      simp only [hb, if_true, Option.some.injEq] at h3
      have : l.any q = true := List.any_eq_true.2 ⟨e, List.mem_of_getElem? he, hb⟩
      rw [this, ← h3]
      simp [outK]
def togF (l : List Int) : Int := if l.any (fun x => !decide (x = 1)) = false then 1 else if l.any (fun x => !decide (x = 3)) = false then 3 else 2
theorem tog_eq (l : List Int) (hl : l.length ≤ MX) : m65 l = some (togF l) := by
  unfold m65 w16; dsimp only
  have h1 : ∀ v, m58 v = some v := fun v => by unfold m58 w15; dsimp only
  have h2 : ∀ a v, m50 a v = some (!decide (a = v)) := fun a v => by unfold m50 w14; dsimp only
  simp only [h1, Option.bind_some]
  rw [anyI_eq l hl _ _ _ _ (fun x => !decide (x = 1)) (fun a => h2 a 1), anyI_eq l hl _ _ _ _ (fun x => !decide (x = 3)) (fun a => h2 a 3)]
  unfold togF
  cases l.any (fun x => !decide (x = 1)) <;> cases l.any (fun x => !decide (x = 3)) <;> rfl
theorem all_not_any (l : List Int) (v : Int) : l.all (fun x => decide (x = v)) = !l.any (fun x => !decide (x = v)) := by
  induction l with
  | nil => rfl
  | cons a l ih => simp only [List.all_cons, List.any_cons, ih, Bool.not_or, Bool.not_not]
theorem togR_eq (l : List Int) (hl : l.length ≤ MX) : m53 l = some (togF l) := by
  unfold MX at hl
  unfold m53 w14; dsimp only
  refine bind_loop (loop_trace (a := .inl (l.all (fun x => decide (x = 1)), l.all (fun x => decide (x = 3)), (l.length : Int))) (fun i : Nat => ((l.take i).all (fun x => decide (x = 1)), (l.take i).all (fun x => decide (x = 3)), (i : Int))) l.length (fun i hi => ?_) ?_) ?_
  · obtain ⟨e, he⟩ := get_lt hi
    simp only [lt_dec hi, cond_true, getI_nat, he, Option.bind_some, andO_some, wrapN i (by omega), take_snoc he, List.all_append, List.all_cons, List.all_nil, Bool.and_true]
  · simp only [lt_dec_self, cond_false, List.take_length]; rfl
  · simp only [outK, all_not_any, togF]
    cases l.any (fun x => !decide (x = 1)) <;> cases l.any (fun x => !decide (x = 3)) <;> rfl
def vG (g : Gr) : Int := togF (g.fMessages.map (·.fVerdict))
def vR (r : Rp) : Int := togF (r.fGroups.map (·.fVerdict))
theorem vG_eq (x : Gr) (hl : x.fMessages.length ≤ 1048576) : m68 x = some (vG x) := by
  unfold m68 w17; dsimp only
  refine bind_loop (loop_trace (a := .inl (x.fMessages.map (·.fVerdict), (x.fMessages.length : Int))) (fun i : Nat => ((x.fMessages.take i).map (·.fVerdict), (i : Int))) x.fMessages.length (fun i hi => ?_) ?_) ?_
  · obtain ⟨e, he⟩ := get_lt hi
    simp only [lt_dec hi, cond_true, getI_nat, he, Option.bind_some, wrapN i (by omega), take_snoc he, List.map_append, List.map_cons, List.map_nil]
    rw [thenO_some (lenO_ok (by simp only [List.length_map, List.length_take, List.length_cons, List.length_nil]; omega))]
  · simp only [lt_dec_self, cond_false, List.take_length]; rfl
  · simp only [outK, tog_eq (x.fMessages.map (·.fVerdict)) (by rw [List.length_map]; unfold MX; omega), Option.bind_some]; rfl
theorem vGR_eq (x : Gr) (hl : x.fMessages.length ≤ 1048576) : m62 x = some (vG x) := by
  unfold m62 w15; dsimp only
  refine bind_loop (loop_trace (a := .inl (x.fMessages.map (·.fVerdict), (x.fMessages.length : Int))) (fun i : Nat => ((x.fMessages.take i).map (·.fVerdict), (i : Int))) x.fMessages.length (fun i hi => ?_) ?_) ?_
  · obtain ⟨e, he⟩ := get_lt hi
    simp only [lt_dec hi, cond_true, getI_nat, he, Option.bind_some, wrapN i (by omega), take_snoc he, List.map_append, List.map_cons, List.map_nil]
    rw [thenO_some (lenO_ok (by simp only [List.length_map, List.length_take, List.length_cons, List.length_nil]; omega))]
  · simp only [lt_dec_self, cond_false, List.take_length]; rfl
  · simp only [outK, togR_eq (x.fMessages.map (·.fVerdict)) (by rw [List.length_map]; unfold MX; omega), Option.bind_some]; rfl
theorem vR_eq (x : Rp) (hl : x.fGroups.length ≤ 1048576) : m69 x = some (vR x) := by
  unfold m69 w17; dsimp only
  refine bind_loop (loop_trace (a := .inl (x.fGroups.map (·.fVerdict), (x.fGroups.length : Int))) (fun i : Nat => ((x.fGroups.take i).map (·.fVerdict), (i : Int))) x.fGroups.length (fun i hi => ?_) ?_) ?_
  · obtain ⟨e, he⟩ := get_lt hi
    simp only [lt_dec hi, cond_true, getI_nat, he, Option.bind_some, wrapN i (by omega), take_snoc he, List.map_append, List.map_cons, List.map_nil]
    rw [thenO_some (lenO_ok (by simp only [List.length_map, List.length_take, List.length_cons, List.length_nil]; omega))]
  · simp only [lt_dec_self, cond_false, List.take_length]; rfl
  · simp only [outK, tog_eq (x.fGroups.map (·.fVerdict)) (by rw [List.length_map]; unfold MX; omega), Option.bind_some]; rfl
theorem vRR_eq (x : Rp) (hl : x.fGroups.length ≤ 1048576) : m63 x = some (vR x) := by
  unfold m63 w15; dsimp only
  refine bind_loop (loop_trace (a := .inl (x.fGroups.map (·.fVerdict), (x.fGroups.length : Int))) (fun i : Nat => ((x.fGroups.take i).map (·.fVerdict), (i : Int))) x.fGroups.length (fun i hi => ?_) ?_) ?_
  · obtain ⟨e, he⟩ := get_lt hi
    simp only [lt_dec hi, cond_true, getI_nat, he, Option.bind_some, wrapN i (by omega), take_snoc he, List.map_append, List.map_cons, List.map_nil]
    rw [thenO_some (lenO_ok (by simp only [List.length_map, List.length_take, List.length_cons, List.length_nil]; omega))]
  · simp only [lt_dec_self, cond_false, List.take_length]; rfl
  · simp only [outK, togR_eq (x.fGroups.map (·.fVerdict)) (by rw [List.length_map]; unfold MX; omega), Option.bind_some]; rfl
end Go.Proofs.YthailknfgcegoaaGreatDoor
