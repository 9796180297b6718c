/-
  Texts of mine, one behind the other (SAGS, SALibE, SAGM, SAG8, SAGO, SAG9, SAGL, SARow, SAGW, SAPL, SAQ1, SAQ2, SAQ3, SAPM, SAQ4, SAGR, SAY1, SAY2, SAY7, SAY8, SAY9, SAY10, SAKS, SAK1, SAK2a, SAZ1, SAZ2, SAZ3).
-/
import Derived.Test.YthcfbglbjipdaaaGreatDoorBA1
import Derived.Test.YthcfbglbjipdaaaGreatDoorSAEngZz
import Derived.Test.YthcfbglbjipdaaaGreatDoorProg
import Derived.KernelRfl
import Derived.Test.YthcfbglbjipdaaaGreatDoorSAEngRi
import Derived.Test.YthcfbglbjipdaaaGreatDoorSAEngRj
import Derived.Test.YthcfbglbjipdaaaGreatDoorCards
import Derived.Test.YthcfbglbjipdaaaGreatDoorTie
import Derived.Test.YthcfbglbjipdaaaGreatDoorSAEngR
import Derived.Test.YthcfbglbjipdaaaGreatDoorSAEngX
/-
  Bodies of functions and what they compute, printed by programs of mine (wip/tool/gen.py, sc.py) out of the translation; the kernel holds each against the translation.
-/
namespace Go.Proofs.YthcfbglbjipdaaaGreatDoor
open Go.RowKit
set_option linter.unusedSimpArgs false
set_option linter.unusedVariables false
theorem oT_Tapi_Group {d0 d1 d2 : SV} {v0 : List UInt8} {v1 : List UInt8} {v2 : List Tapi_Message} {m2 : List Mask} (h0 : svle d0 (.d (.str v0))) (h1 : svle d1 (.d (.str v1))) (h2 : cle d2 (.own (.sl 46 m2) (.slice (List.map rTapi_Message v2)))) : cellsle [d0, d1, d2] (ownR [.sh, .sh, .sl 46 m2] (rTapi_Group ⟨v0, v1, v2⟩)) := by have h := (cellsle.append (cellsle.consS h0 cellsle.nil) (cellsle.append (cellsle.consS h1 cellsle.nil) (cellsle.cons h2 cellsle.nil))); simp only [push_cast, seval, dR] at h ⊢; exact h
def bT_Tapi_Group (p0 : List UInt8) (p1 : List UInt8) (p2 : Nat) : List SV := [.d (.str p0)] ++ ([.d (.str p1)] ++ ([.vec p2]))
attribute [push_cast] bT_Tapi_Group
theorem bcT_Tapi_Group {d0 d1 : SV} {a2 : Nat} {v0 : List UInt8} {v1 : List UInt8} (h0 : svle d0 (.d (.str v0))) (h1 : svle d1 (.d (.str v1))) : cellsle [d0, d1, .vec a2] (bT_Tapi_Group v0 v1 a2) := by have h := (cellsle.append (cellsle.consS h0 cellsle.nil) (cellsle.append (cellsle.consS h1 cellsle.nil) (cellsle.rfl (l := [.vec a2])))); simp only [bT_Tapi_Group, push_cast, seval, dR] at h ⊢; exact h

theorem oT_Tapi_Interchange {d0 d1 d2 d3 d4 d5 d6 : SV} {v0 : List UInt8} {v1 : List UInt8} {v2 : List UInt8} {v3 : Int} {v4 : Int} {v5 : Bool} {v6 : List Tapi_Group} {m6 : List Mask} (h0 : svle d0 (.d (.str v0))) (h1 : svle d1 (.d (.str v1))) (h2 : svle d2 (.d (.str v2))) (h3 : svle d3 (.d (.int .i64 v3))) (h4 : svle d4 (.d (.int .i64 v4))) (h5 : svle d5 (.d (.bool v5))) (h6 : cle d6 (.own (.sl 41 m6) (.slice (List.map rTapi_Group v6)))) : cellsle [d0, d1, d2, d3, d4, d5, d6] (ownR [.sh, .sh, .sh, .sh, .sh, .sh, .sl 41 m6] (rTapi_Interchange ⟨v0, v1, v2, v3, v4, v5, v6⟩)) := by have h := (cellsle.append (cellsle.consS h0 cellsle.nil) (cellsle.append (cellsle.consS h1 cellsle.nil) (cellsle.append (cellsle.consS h2 cellsle.nil) (cellsle.append (cellsle.consS h3 cellsle.nil) (cellsle.append (cellsle.consS h4 cellsle.nil) (cellsle.append (cellsle.consS h5 cellsle.nil) (cellsle.cons h6 cellsle.nil))))))); simp only [push_cast, seval, dR] at h ⊢; exact h
def bT_Tapi_Interchange (p0 : List UInt8) (p1 : List UInt8) (p2 : List UInt8) (p3 : Int) (p4 : Int) (p5 : Bool) (p6 : Nat) : List SV := [.d (.str p0)] ++ ([.d (.str p1)] ++ ([.d (.str p2)] ++ ([.d (.int .i64 p3)] ++ ([.d (.int .i64 p4)] ++ ([.d (.bool p5)] ++ ([.vec p6]))))))
attribute [push_cast] bT_Tapi_Interchange
theorem bcT_Tapi_Interchange {d0 d1 d2 d3 d4 d5 : SV} {a6 : Nat} {v0 : List UInt8} {v1 : List UInt8} {v2 : List UInt8} {v3 : Int} {v4 : Int} {v5 : Bool} (h0 : svle d0 (.d (.str v0))) (h1 : svle d1 (.d (.str v1))) (h2 : svle d2 (.d (.str v2))) (h3 : svle d3 (.d (.int .i64 v3))) (h4 : svle d4 (.d (.int .i64 v4))) (h5 : svle d5 (.d (.bool v5))) : cellsle [d0, d1, d2, d3, d4, d5, .vec a6] (bT_Tapi_Interchange v0 v1 v2 v3 v4 v5 a6) := by have h := (cellsle.append (cellsle.consS h0 cellsle.nil) (cellsle.append (cellsle.consS h1 cellsle.nil) (cellsle.append (cellsle.consS h2 cellsle.nil) (cellsle.append (cellsle.consS h3 cellsle.nil) (cellsle.append (cellsle.consS h4 cellsle.nil) (cellsle.append (cellsle.consS h5 cellsle.nil) (cellsle.rfl (l := [.vec a6])))))))); simp only [bT_Tapi_Interchange, push_cast, seval, dR] at h ⊢; exact h

structure Twire_splitter where
  fmost : Int
  flike : Tapi_Interchange
  fout : List Tapi_Interchange
  fmany : Int
  flast : Int
  deriving DecidableEq
def rTwire_splitter (x : Twire_splitter) : List DV := [.int .i64 x.fmost] ++ rTapi_Interchange x.flike ++ [.slice (List.map rTapi_Interchange x.fout), .int .i64 x.fmany, .int .i64 x.flast]
attribute [push_cast] rTwire_splitter
def bT_Twire_splitter (p0 : Int) (p1 : Tapi_Interchange) (p2 : Nat) (p3 : Int) (p4 : Int) : List SV := [.d (.int .i64 p0)] ++ (dR (rTapi_Interchange p1) ++ ([.vec p2] ++ ([.d (.int .i64 p3)] ++ ([.d (.int .i64 p4)]))))
attribute [push_cast] bT_Twire_splitter
theorem frzO_Tapi_Group {l : List Tapi_Group} : SV.frzR (vrowO [.sh, .sh, .sl 46 [.sh, .sh, .sh, .sh]] rTapi_Group l) = some (l.map rTapi_Group) := frzR_vrowO rfl (fun _ => rfl)
attribute [push_cast] frzO_Tapi_Group

theorem frzO_Tapi_Interchange {l : List Tapi_Interchange} : SV.frzR (vrowO [.sh, .sh, .sh, .sh, .sh, .sh, .sl 41 [.sh, .sh, .sl 46 [.sh, .sh, .sh, .sh]]] rTapi_Interchange l) = some (l.map rTapi_Interchange) := frzR_vrowO rfl (fun _ => rfl)
attribute [push_cast] frzO_Tapi_Interchange

/-- (*interchange/wire.splitter).begin -/
def sc_interchange_wire_splitter_begin : SC :=
  (.seq (.reg [.r 4 (.mv (.t 0)),
     .r 5 (.nilc (.t 4)),
     .r 6 (.fld 1 (.t 5)),
     .o 7 (.ldA 7 (.t 6)),
     .w 2 (.boxM (.c (.agg [.d (.str []), .d (.str []), .d (.str []), .d (.int .i64 0), .d (.int .i64 0), .d (.bool false), .nils]))),
     .w 0 (.st 7 (.t 2) (.t 7))])
  (.seq (.reg [.r 8 (.fld 6 (.t 2)),
     .w 0 (.st 1 (.t 8) (.c (.nils)))])
  (.seq (.seq (.reg [.r 9 (.mv (.t 0)),
     .r 10 (.nilc (.t 9)),
     .r 11 (.fld 8 (.t 10)),
     .o 12 (.ld1 (.t 11)),
     .r 13 (.len (.t 12)),
     .r 3 (.mv (.t 13))])
  (.seq (.reg [.r 14 (.mv (.t 3)),
     .r 15 (.bin .gtr (.t 14) (.c (.d (.int .i64 0))))])
  (.cond (.t 15)
    (.regE [.r 16 (.fld 0 (.t 2)),
       .r 17 (.ld1 (.t 16)),
       .r 18 (.mv (.t 3)),
       .r 19 (.bin .add (.t 18) (.c (.d (.int .i64 1)))),
       .c 20 (.f 18) [.t 19],
       .r 21 (.bin .add (.c (.d (.str [45]))) (.t 20)),
       .r 22 (.bin .add (.t 17) (.t 21)),
       .r 23 (.fld 0 (.t 2)),
       .x 0 (.st 1 (.t 23) (.t 22)) []])
    .skip)))
  (.seq (.regE [.r 24 (.mv (.t 0)),
     .r 25 (.mv (.t 0)),
     .r 26 (.nilc (.t 25)),
     .r 27 (.fld 8 (.t 26)),
     .r 28 (.ld1 (.t 27)),
     .r 29 (.ldA 7 (.t 2)),
     .r 30 (.bslice 7 [.t 29]),
     .x 31 (.app 24 7 (.t 28) (.t 30)) [(0, 24, .mv (.t 0))],
     .r 32 (.nilc (.t 24)),
     .r 33 (.fld 8 (.t 32)),
     .x 0 (.st 1 (.t 33) (.t 31)) []])
  (.reg [.r 34 (.mv (.t 0)),
     .r 35 (.mv (.t 0)),
     .r 36 (.nilc (.t 34)),
     .r 37 (.fld 9 (.t 36)),
     .w 0 (.st 1 (.t 37) (.c (.d (.int .i64 0)))),
     .r 38 (.nilc (.t 35)),
     .r 39 (.fld 10 (.t 38)),
     .w 0 (.st 1 (.t 39) (.c (.d (.int .i64 (-1)))))])))))
def sc_interchange_wire_splitter_group_R4 : SC :=
  (.regE [.r 32 (.mv (.t 5)),
   .r 33 (.mv (.t 5)),
   .r 34 (.nilc (.t 33)),
   .r 35 (.fld 6 (.t 34)),
   .r 36 (.ld1 (.t 35)),
   .r 37 (.fld 0 (.t 6)),
   .r 38 (.ld1 (.t 37)),
   .r 39 (.fld 1 (.t 6)),
   .r 40 (.ld1 (.t 39)),
   .r 41 (.build [.d (.str []), .d (.str []), .nils] [(0, 1, .t 38), (1, 1, .t 40)]),
   .r 42 (.bslice 3 [.t 41]),
   .x 43 (.app 41 3 (.t 36) (.t 42)) [(0, 32, .mv (.t 5))],
   .r 44 (.nilc (.t 32)),
   .r 45 (.fld 6 (.t 44)),
   .x 0 (.st 1 (.t 45) (.t 43)) []])
def sc_interchange_wire_splitter_group_R6 : SC :=
  (.regD [.r 50 (.mv (.t 5)),
   .r 51 (.nilc (.t 50)),
   .r 52 (.fld 6 (.t 51)),
   .r 53 (.ld1 (.t 52)),
   .r 54 (.mv (.t 5)),
   .r 55 (.nilc (.t 54)),
   .r 56 (.fld 6 (.t 55)),
   .r 57 (.ld1 (.t 56)),
   .r 58 (.len (.t 57)),
   .r 59 (.bin .sub (.t 58) (.c (.d (.int .i64 1)))),
   .r 60 (.idx 3 (.t 53) (.t 59)),
   .r 4 (.mv (.t 60))])
/-- (*interchange/wire.splitter).group -/
def sc_interchange_wire_splitter_group : SC :=
  (.seq (.reg [.r 4 (.mv (.c (.d (.raw (.pointer none)))))])
  (.seq (.regD [.r 7 (.mv (.t 0)),
     .r 8 (.nilc (.t 7)),
     .r 9 (.fld 8 (.t 8)),
     .r 10 (.ld1 (.t 9)),
     .r 11 (.mv (.t 0)),
     .r 12 (.nilc (.t 11)),
     .r 13 (.fld 8 (.t 12)),
     .r 14 (.ld1 (.t 13)),
     .r 15 (.len (.t 14)),
     .r 16 (.bin .sub (.t 15) (.c (.d (.int .i64 1)))),
     .r 17 (.idx 7 (.t 10) (.t 16)),
     .r 5 (.mv (.t 17))])
  (.seq (.seq (.reg [.r 18 (.mv (.t 0)),
     .r 19 (.nilc (.t 18)),
     .r 20 (.fld 10 (.t 19)),
     .o 21 (.ld1 (.t 20)),
     .r 22 (.mv (.t 1)),
     .r 23 (.bin .neq (.t 21) (.t 22))])
  (.cond (.t 23)
    (.seq (.reg [.r 24 (.mv (.t 0)),
       .r 25 (.nilc (.t 24)),
       .r 26 (.fld 1 (.t 25)),
       .r 27 (.fld 6 (.t 26)),
       .o 28 (.ld1 (.t 27)),
       .r 29 (.mv (.t 1)),
       .r 30 (.idx 3 (.t 28) (.t 29)),
       .o 31 (.ldA 3 (.t 30)),
       .w 6 (.boxM (.c (.agg [.d (.str []), .d (.str []), .nils]))),
       .w 0 (.st 3 (.t 6) (.t 31))])
    (.seq sc_interchange_wire_splitter_group_R4
    (.reg [.r 46 (.mv (.t 0)),
       .r 47 (.mv (.t 1)),
       .r 48 (.nilc (.t 46)),
       .r 49 (.fld 10 (.t 48)),
       .w 0 (.st 1 (.t 49) (.t 47))])))
    .skip))
  (.seq sc_interchange_wire_splitter_group_R6
  .ret))))
def sc_wire_Split_I7 : SC := .inl 1 [.r 26 (.mv (.t 7)),
   .p (some 27) (.f 12) [.t 26]] 40 sc_interchange_wire_splitter_begin []
def sc_wire_Split_I12 : SC := .inl 2 [.r 40 (.mv (.t 7)),
   .r 41 (.mv (.t 8)),
   .p (some 42) (.f 13) [.t 40, .t 41]] 61 sc_interchange_wire_splitter_group [.t 4]
def sc_wire_Split_I17 : SC := .inl 1 [.r 56 (.mv (.t 7)),
   .p (some 57) (.f 12) [.t 56]] 40 sc_interchange_wire_splitter_begin []
def sc_wire_Split_I19 : SC := .inl 2 [.r 62 (.mv (.t 7)),
   .r 63 (.mv (.t 8)),
   .p (some 64) (.f 13) [.t 62, .t 63],
   .r 12 (.mv (.t 64))] 61 sc_interchange_wire_splitter_group [.t 4]
def sc_wire_Split_R20 : SC :=
  (.regE [.r 65 (.mv (.t 12)),
   .r 66 (.mv (.t 12)),
   .r 67 (.nilc (.t 66)),
   .r 68 (.fld 2 (.t 67)),
   .r 69 (.ld1 (.t 68)),
   .r 70 (.ldA 4 (.t 11)),
   .r 71 (.bslice 4 [.t 70]),
   .x 72 (.app 46 4 (.t 69) (.t 71)) [(0, 65, .mv (.t 12))],
   .r 73 (.nilc (.t 65)),
   .r 74 (.fld 2 (.t 73)),
   .x 0 (.st 1 (.t 74) (.t 72)) []])
def sc_wire_Split_L1 : SC :=
  (.seq (.reg [.r 47 (.bin .lss (.t 46) (.t 45))])
  (.seq (.cond (.t 47)
    .skip
    (.exit 2))
  (.seq (.block 3 (.seq (.reg [.r 48 (.idx 4 (.t 44) (.t 46)),
       .o 49 (.ldA 4 (.t 48)),
       .w 11 (.boxM (.c (.agg [.d (.str []), .d (.str []), .d (.str []), .nils]))),
       .w 0 (.st 4 (.t 11) (.t 49))])
    (.seq (.seq (.reg [.r 50 (.mv (.t 7)),
       .r 51 (.nilc (.t 50)),
       .r 52 (.fld 9 (.t 51)),
       .o 53 (.ld1 (.t 52)),
       .r 54 (.mv (.t 1)),
       .r 55 (.bin .eql (.t 53) (.t 54))])
    (.cond (.t 55)
      sc_wire_Split_I17
      .skip))
    (.seq (.reg [.r 58 (.fld 3 (.t 11)),
       .o 59 (.ld1 (.t 58)),
       .c 60 (.f 14) [.t 59],
       .r 61 (.fld 3 (.t 11)),
       .w 0 (.st 1 (.t 61) (.t 60))])
    (.seq sc_wire_Split_I19
    (.seq sc_wire_Split_R20
    (.reg [.r 75 (.mv (.t 7)),
       .r 76 (.nilc (.t 75)),
       .r 77 (.fld 9 (.t 76)),
       .o 78 (.ld1 (.t 77)),
       .r 79 (.bin .add (.t 78) (.c (.d (.int .i64 1)))),
       .r 80 (.nilc (.t 75)),
       .r 81 (.fld 9 (.t 80)),
       .w 0 (.st 1 (.t 81) (.t 79))])))))))
  (.reg [.r 82 (.bin .add (.t 46) (.c (.d (.int .i64 1)))),
     .r 46 (.mv (.t 82))]))))
def sc_wire_Split_B1 : SC := .block 2 (.loop sc_wire_Split_L1)
def sc_wire_Split_L2 : SC :=
  (.seq (.reg [.r 32 (.bin .lss (.t 31) (.t 30))])
  (.seq (.cond (.t 32)
    .skip
    (.exit 0))
  (.seq (.block 1 (.seq (.reg [.r 33 (.mv (.t 31)),
       .r 34 (.idx 3 (.t 29) (.t 31)),
       .o 35 (.ldA 3 (.t 34)),
       .w 9 (.boxM (.c (.agg [.d (.str []), .d (.str []), .nils]))),
       .r 8 (.mv (.t 33)),
       .w 0 (.st 3 (.t 9) (.t 35))])
    (.seq (.seq (.reg [.r 36 (.fld 2 (.t 9)),
       .o 37 (.ld1 (.t 36)),
       .r 38 (.len (.t 37)),
       .r 39 (.bin .eql (.t 38) (.c (.d (.int .i64 0))))])
    (.cond (.t 39)
      sc_wire_Split_I12
      .skip))
    (.seq (.reg [.r 43 (.fld 2 (.t 9)),
       .o 44 (.ld1 (.t 43)),
       .r 45 (.len (.t 44)),
       .r 46 (.mv (.c (.d (.int .i64 0))))])
    sc_wire_Split_B1))))
  (.reg [.r 83 (.bin .add (.t 31) (.c (.d (.int .i64 1)))),
     .r 31 (.mv (.t 83))]))))
def sc_wire_Split_B2 : SC := .block 0 (.loop sc_wire_Split_L2)
def sc_wire_Split_R24 : SC := (.reg [.r 84 (.mv (.t 7)),
     .r 85 (.nilc (.t 84)),
     .r 86 (.fld 8 (.t 85)),
     .o 87 (.ld1 (.t 86)),
     .r 88 (.len (.t 87)),
     .r 89 (.mv (.c (.d (.int .i64 0))))])
def sc_wire_Split_L3 : SC :=
  (.seq (.reg [.r 90 (.bin .lss (.t 89) (.t 88))])
  (.seq (.cond (.t 90)
    .skip
    (.exit 4))
  (.seq (.block 5 (.seq (.reg [.r 91 (.idx 7 (.t 87) (.t 89)),
       .o 92 (.ldA 7 (.t 91)),
       .w 14 (.boxM (.c (.agg [.d (.str []), .d (.str []), .d (.str []), .d (.int .i64 0), .d (.int .i64 0), .d (.bool false), .nils]))),
       .w 0 (.st 7 (.t 14) (.t 92))])
    (.seq (.reg [.r 93 (.fld 0 (.t 14)),
       .o 94 (.ld1 (.t 93)),
       .c 95 (.f 15) [.t 94],
       .r 96 (.not (.t 95))])
    (.cond (.t 96)
      (.seq (.reg [.r 4 (.mv (.c (.nils))),
         .r 5 (.mv (.c (.d (.int .i64 3))))])
      .ret)
      .skip))))
  (.reg [.r 97 (.bin .add (.t 89) (.c (.d (.int .i64 1)))),
     .r 89 (.mv (.t 97))]))))
def sc_wire_Split_B3 : SC := .block 4 (.loop sc_wire_Split_L3)
/-- interchange/wire.Split -/
def sc_wire_Split : SC :=
  (.seq (.reg [.r 2 (.boxI (.t 0)),
     .r 4 (.mv (.c (.nils))),
     .r 5 (.mv (.c (.d (.int .i64 0))))])
  (.seq (.seq (.reg [.o 15 (.ldA 7 (.t 2)),
     .c 16 (.f 10) [.t 15],
     .r 6 (.mv (.t 16))])
  (.seq (.reg [.r 17 (.mv (.t 6)),
     .r 18 (.bin .neq (.t 17) (.c (.d (.int .i64 0))))])
  (.cond (.t 18)
    (.seq (.reg [.r 19 (.mv (.t 6)),
       .r 4 (.mv (.c (.nils))),
       .r 5 (.mv (.t 19))])
    .ret)
    .skip)))
  (.seq (.seq (.reg [.r 20 (.mv (.t 1)),
     .c 21 (.f 11) [.t 20, .c (.d (.int .i64 1)), .c (.d (.int .i64 200))]])
  (.cond (.t 21)
    (.seq (.reg [.r 4 (.mv (.c (.nils))),
       .r 5 (.mv (.c (.d (.int .i64 1))))])
    .ret)
    .skip))
  (.seq (.reg [.r 22 (.mv (.t 1)),
     .o 23 (.ldA 7 (.t 2)),
     .r 24 (.build [.d (.int .i64 0), .d (.str []), .d (.str []), .d (.str []), .d (.int .i64 0), .d (.int .i64 0), .d (.bool false), .nils, .nils, .d (.int .i64 0), .d (.int .i64 0)] [(0, 1, .t 22), (1, 7, .t 23)]),
     .w 25 (.boxM (.t 24)),
     .r 7 (.mv (.t 25))])
  (.seq sc_wire_Split_I7
  (.seq (.seq (.reg [.r 28 (.fld 6 (.t 2)),
     .o 29 (.ld1 (.t 28)),
     .r 30 (.len (.t 29)),
     .r 31 (.mv (.c (.d (.int .i64 0))))])
  sc_wire_Split_B2)
  (.seq (.seq sc_wire_Split_R24
  sc_wire_Split_B3)
  (.seq (.reg [.r 98 (.mv (.t 7)),
     .r 99 (.nilc (.t 98)),
     .r 100 (.fld 8 (.t 99)),
     .o 101 (.ld1 (.t 100)),
     .r 4 (.mv (.t 101)),
     .r 5 (.mv (.c (.d (.int .i64 0))))])
  .ret))))))))
theorem fit_wire_Split : fits Tryz.prog 4 Tryz.f4 sc_wire_Split [.t 4, .t 5] 2 = true := by kernel_rfl

set_option maxRecDepth 100000 in
set_option maxHeartbeats 40000000 in
noncomputable def sims_GS_1_0 : (∀ (x0 : Tapi_Interchange) (x1 : Int), {m : Option ((List Tapi_Interchange) × Int) // ∀ r, m = some r → PureSpec Tryz.prog 4 [.agg (rTapi_Interchange x0), .int .i64 x1] (.tup [.slice (List.map rTapi_Interchange r.1), .int .i64 r.2])}) := by
  (intro x0 x1; apply Subtype.mk; intro r hm; apply pure_walk Tryz.func4 fit_wire_Split; unfold sc_wire_Split)
  repeat' (first | ((with_reducible apply W_nilB (id := 25) (cid := 1808) (off := 8) (n := 7) (e := 24)); (focus (simp only [push_cast, seval]; (try rfl); done)); (focus (simp only [push_cast, seval]; (try rfl); done)); (focus decide); (focus (simp only [push_cast, seval]; (try rfl); done))) | ((apply W_frz (x := sc_wire_Split_R24) (id := 1808)); (focus (simp only [push_cast, seval]; (try rfl); done)); (focus (simp only [push_cast, seval]; (try rfl); done)); unfold sc_wire_Split_R24) | ((with_reducible apply W_normO 40010 [.sh, .sh, .sl 46 [.sh, .sh, .sh, .sh]] rTapi_Group); (focus (simp only [push_cast, seval]; rfl)); (focus ((repeat' (first | (with_reducible first | apply r_rflO | apply r_oneO | apply r_appO | apply oT_Tapi_Group) | ((with_reducible apply svle_rfl); (focus ((repeat' (first | rfl)); done))) | ((with_reducible apply cle_nilM); (focus rfl)))); done))) | ((with_reducible apply W_normO 40020 [.sh, .sh, .sl 46 [.sh, .sh, .sh, .sh]] rTapi_Group); (focus (simp only [push_cast, seval]; rfl)); (focus ((repeat' (first | (with_reducible first | apply r_rflO | apply r_oneO | apply r_appO | apply oT_Tapi_Group) | ((with_reducible apply svle_rfl); (focus ((repeat' (first | rfl)); done))) | ((with_reducible apply cle_nilM); (focus rfl)))); done))) | ((with_reducible apply W_normO 301808 [.sh, .sh, .sh, .sh, .sh, .sh, .sl 41 [.sh, .sh, .sl 46 [.sh, .sh, .sh, .sh]]] rTapi_Interchange); (focus (simp only [push_cast, seval]; rfl)); (focus ((repeat' (first | (with_reducible first | apply r_rflO | apply r_oneO | apply r_appO | apply oT_Tapi_Interchange) | ((with_reducible apply svle_rfl); (focus ((repeat' (first | rfl)); done))) | ((with_reducible apply cle_nilM); (focus rfl)))); done))) | with_reducible refine W_seq ?_ | with_reducible refine W_reg ?_ | with_reducible refine W_regD ?_ | with_reducible refine W_regE ?_ | with_reducible refine W_block ?_ | with_reducible refine W_skip ?_ | with_reducible refine W_ret ?_ | with_reducible refine W_exit ?_ | with_reducible refine O_nil ?_ | with_reducible refine K_seq ?_ | with_reducible refine K_seqE ?_ | with_reducible refine K_seqR ?_ | with_reducible refine K_block ?_ | with_reducible refine K_blockR ?_ | with_reducible refine O_o2r ?_ | ((with_reducible apply O_idxr hm); (iterate 2 (simp only [push_cast, seval]; rfl)); (intro _; rfl); intro e hm) | ((with_reducible apply O_idxVO hm); (iterate 2 (simp only [push_cast, seval]; rfl)); (focus (first | (simp only [push_cast, seval]; rfl))); (simp only [push_cast, seval]; rfl); intro e he hm) | ((with_reducible apply O_ldF); (iterate 2 (simp only [push_cast, seval]; rfl)); (focus (first | (simp only [push_cast, seval]; exact getI_lt (by assumption)))); (iterate 2 rfl)) | ((with_reducible apply O_r); (simp only [push_cast, seval]; rfl); (first | exact trivial)) | ((with_reducible apply O_strr hm); (iterate 2 (simp only [push_cast, seval]; rfl)); intro hm) | ((with_reducible apply W_condF); (focus (simp only [push_cast, seval]; done))) | ((with_reducible apply O_cF hm); (simp only [push_cast, seval]; rfl); (first | apply spec_wire_CheckInterchange _ | apply spec_kit_Outside _ _ _ | apply spec_wire_CloneAll _ | apply spec_kit_IsRef _ | apply spec_strconv_Itoa _); (any_goals ((repeat' (first | rfl)); done)); intro x hm) | ((with_reducible apply O_w); (simp only [push_cast, seval]; rfl); (first | exact trivial)) | ((with_reducible apply O_stFx); (simp only [push_cast, seval]; rfl); (focus (first | (simp only [push_cast, seval]; rfl))); (simp only [push_cast, seval]; rfl); (focus (first | (simp only [push_cast, seval]; exact getI_lt (by assumption)))); (focus (first | (simp only [push_cast, seval]; done))); rfl; (focus ((repeat' (first | exact Rer_nil)); done))) | ((with_reducible apply O_appVX hm); (iterate 2 (simp only [push_cast, seval]; rfl)); (focus ((repeat' (first | rfl | (with_reducible first | apply eR_nil))); done)); (simp only [push_cast, seval]; rfl); (focus ((repeat' (first | rfl | (with_reducible first | apply eR_nil | apply eR_cons | apply eT_Tapi_Interchange | apply eT_Tapi_Message))); done)); (intro _; rfl); (focus ((repeat' (first | exact Rer_nil | ((with_reducible apply Rer_cons); (focus (simp only [push_cast, seval]; rfl)); (focus (first | exact trivial)); (focus (simp only [push_cast, seval]))))); done)); intro hm) | ((with_reducible apply O_appX2 hm); (iterate 4 (simp only [push_cast, seval]; rfl)); rfl; (focus ((repeat' (first | exact Rer_nil | ((with_reducible apply Rer_cons); (focus (simp only [push_cast, seval]; rfl)); (focus (first | exact trivial)); (focus (simp only [push_cast, seval]))))); done)); intro hm) | ((with_reducible apply O_x); (simp only [push_cast, seval]; rfl); (first | exact trivial); (focus ((repeat' (first | exact Rer_nil)); done))) | ((with_reducible apply S_condB hm); (simp only [push_cast, seval]; rfl); intro hm; rotate_left; intro hm) | ((with_reducible apply K_end2 hm); (focus (simp only [resOf, resL, RV.get, push_cast, seval]; rfl)); (focus (first | (dsimp only; done))); (focus ((repeat' (first | rfl | (with_reducible first | apply f_tup | apply dv_slice | apply f_cons | apply fold_nil))); done))) | ((with_reducible apply K_leave hm); intro r hm) | ((with_reducible apply K_leaveR hm); intro r hm) | ((apply S_loopY (b := 2) (X := sc_wire_Split_B1) (x := sc_wire_Split_L1) rfl (fun (c : SV × SV × SV × SV × SV × SV × SV) (s : Int × Tapi_Interchange × (List Tapi_Interchange) × Int × Int × Int) => st [(1, c.1), (7, .ref 25 0), (8, c.2.1), (29, c.2.2.1), (30, c.2.2.2.1), (31, c.2.2.2.2.1), (44, c.2.2.2.2.2.1), (45, c.2.2.2.2.2.2), (46, .d (.int .i64 s.2.2.2.2.2))] [(1808, .vec 24 7 (vrowO [.sh, .sh, .sh, .sh, .sh, .sh, .sl 41 [.sh, .sh, .sl 46 [.sh, .sh, .sh, .sh]]] rTapi_Interchange s.2.2.1)), (25, .box (bT_Twire_splitter s.1 s.2.1 1808 s.2.2.2.1 s.2.2.2.2.1))]) (c := (_, _, _, _, _, _, _)) (s0 := (_, _, _, _, _, _)) hm); (focus (first | (dsimp only; done))); (with_reducible refine Then.mk ?_ ?_)) | ((apply S_loopY (b := 0) (X := sc_wire_Split_B2) (x := sc_wire_Split_L2) rfl (fun (c : SV × SV × SV) (s : Int × Tapi_Interchange × (List Tapi_Interchange) × Int × Int × Int) => st [(1, c.1), (7, .ref 25 0), (29, c.2.1), (30, c.2.2), (31, .d (.int .i64 s.2.2.2.2.2))] [(1808, .vec 24 7 (vrowO [.sh, .sh, .sh, .sh, .sh, .sh, .sl 41 [.sh, .sh, .sl 46 [.sh, .sh, .sh, .sh]]] rTapi_Interchange s.2.2.1)), (25, .box (bT_Twire_splitter s.1 s.2.1 1808 s.2.2.2.1 s.2.2.2.2.1))]) (c := (_, _, _)) (s0 := (_, _, _, _, _, _)) hm); (focus (first | (dsimp only; done))); (with_reducible refine Then.mk ?_ ?_)) | ((apply S_loopY (b := 4) (X := sc_wire_Split_B3) (x := sc_wire_Split_L3) rfl (fun (c : Ch × SV × SV) (s : Int) => st [(7, .ref 25 0), (87, c.2.1), (88, c.2.2), (89, .d (.int .i64 s))] [(25, c.1)]) (c := (_, _, _)) (s0 := _) hm); (focus (first | (dsimp only; done))); (with_reducible refine Then.mk ?_ ?_)) | (((apply S_inl (site := 100000) (X := sc_wire_Split_I7) rfl (fun (c : SV × SV) (s : Int × Tapi_Interchange × (List Tapi_Interchange) × Int × Int) => st [(1, c.1), (2, c.2), (7, .ref 25 0)] [(1808, .vec 24 7 (vrowO [.sh, .sh, .sh, .sh, .sh, .sh, .sl 41 [.sh, .sh, .sl 46 [.sh, .sh, .sh, .sh]]] rTapi_Interchange s.2.2.1)), (25, .box (bT_Twire_splitter s.1 s.2.1 1808 s.2.2.2.1 s.2.2.2.2))]) (c := (_, _)) hm); (focus rfl); (focus (simp only [push_cast, seval]; rfl)); (focus (simp only [push_cast, seval]; rfl)); (focus decide); (intro o hm); rotate_left; (focus ((intro _; repeat' (first | with_reducible exact impC_end | with_reducible refine impC_seq ?_)))); (intro s hm); rotate_left)) | (((apply K_enter (site := 100000) (M := st [(0, _), (41, _), (42, _), (47, _)] [(100025, _), (101808, _)])); (focus ((apply imp_stT; (repeat' (first | with_reducible exact keepT_nil | with_reducible exact keepC_nil | with_reducible apply keepT_cons | with_reducible apply keepC_cons | ((with_reducible apply svle_eq); (focus (first | (simp only [push_cast, seval]; rfl))); (focus ((repeat' (first | rfl)); done))) | ((with_reducible apply chle_eq); (focus (first | (simp only [push_cast, seval]; rfl))); (first | with_reducible exact chle_rfl rfl)))); done))); unfold sc_interchange_wire_splitter_begin)) | (((apply K_inlN (site := 100000) (M := st [(1, _), (2, _), (7, _), (27, _)] [(25, _), (1808, _), (100002, _)])); (focus (simp only [push_cast, seval]; rfl)); (focus ((apply imp_stT; (repeat' (first | with_reducible exact keepT_nil | with_reducible exact keepC_nil | with_reducible apply keepT_cons | with_reducible apply keepC_cons | ((with_reducible apply svle_eq); (focus (first | (simp only [push_cast, seval]; rfl))); (focus ((repeat' (first | rfl)); done))) | ((with_reducible apply chle_eq); (focus (first | (simp only [push_cast, seval]; rfl))); (first | with_reducible exact chle_rfl rfl)))); done))))) | (((apply S_inl (site := 200000) (X := sc_wire_Split_I12) rfl (fun (c : SV × SV × Ch × SV × SV × SV) (s : Int × Tapi_Interchange × (List Tapi_Interchange) × Int × Int) => st [(1, c.1), (7, .ref 25 0), (8, c.2.1), (9, .ref 9 0), (29, c.2.2.2.1), (30, c.2.2.2.2.1), (31, c.2.2.2.2.2)] [(1808, .vec 24 7 (vrowO [.sh, .sh, .sh, .sh, .sh, .sh, .sl 41 [.sh, .sh, .sl 46 [.sh, .sh, .sh, .sh]]] rTapi_Interchange s.2.2.1)), (25, .box (bT_Twire_splitter s.1 s.2.1 1808 s.2.2.2.1 s.2.2.2.2)), (9, c.2.2.1)]) (c := (_, _, _, _, _, _)) hm); (focus rfl); (focus (simp only [push_cast, seval]; rfl)); (focus (simp only [push_cast, seval]; rfl)); (focus decide); (intro o hm); rotate_left; (focus ((intro _; repeat' (first | with_reducible exact impC_end | with_reducible refine impC_seq ?_ | with_reducible refine impC_block ?_ | ((with_reducible refine impC_rnd ?_); intro _) | ((with_reducible refine impC_brk ?_); intro _))))); (intro s hm); rotate_left)) | (((apply K_enter (site := 200000) (M := st [(0, _), (1, _), (62, _), (68, _), (69, _), (70, _), (90, _), (91, _), (92, _)] [(6, _), (40010, _), (100002, _), (200009, _), (200011, _), (200025, _), (201808, _), (240030, _), (300002, _), (400006, _), (440020, _)])); (focus ((apply imp_stT; (repeat' (first | with_reducible exact keepT_nil | with_reducible exact keepC_nil | with_reducible apply keepT_cons | with_reducible apply keepC_cons | ((with_reducible apply svle_eq); (focus (first | (simp only [push_cast, seval]; rfl))); (focus ((repeat' (first | rfl)); done))) | ((with_reducible apply chle_eq); (focus (first | (simp only [push_cast, seval]; rfl))); (first | with_reducible exact chle_rfl rfl)))); done))); unfold sc_interchange_wire_splitter_group)) | (((apply K_inlR (site := 200000) (M := st [(1, _), (7, _), (8, _), (9, _), (29, _), (30, _), (31, _), (42, _)] [(9, _), (11, _), (25, _), (1808, _), (40030, _), (100002, _), (200006, _), (240010, _), (300002, _), (400006, _), (440020, _)])); (focus (simp only [push_cast, seval]; rfl)); (focus ((apply imp_stT; (repeat' (first | with_reducible exact keepT_nil | with_reducible exact keepC_nil | with_reducible apply keepT_cons | with_reducible apply keepC_cons | ((with_reducible apply svle_eq); (focus (first | (simp only [push_cast, seval]; rfl))); (focus ((repeat' (first | rfl)); done))) | ((with_reducible apply chle_eq); (focus (first | (simp only [push_cast, seval]; rfl))); (first | with_reducible exact chle_rfl rfl)))); done))))) | (((apply S_inl (site := 300000) (X := sc_wire_Split_I17) rfl (fun (c : SV × SV × Ch × SV × SV × SV × SV × SV × SV) (s : Int × Tapi_Interchange × (List Tapi_Interchange) × Int × Int) => st [(1, c.1), (7, .ref 25 0), (8, c.2.1), (11, .ref 11 0), (29, c.2.2.2.1), (30, c.2.2.2.2.1), (31, c.2.2.2.2.2.1), (44, c.2.2.2.2.2.2.1), (45, c.2.2.2.2.2.2.2.1), (46, c.2.2.2.2.2.2.2.2)] [(1808, .vec 24 7 (vrowO [.sh, .sh, .sh, .sh, .sh, .sh, .sl 41 [.sh, .sh, .sl 46 [.sh, .sh, .sh, .sh]]] rTapi_Interchange s.2.2.1)), (25, .box (bT_Twire_splitter s.1 s.2.1 1808 s.2.2.2.1 s.2.2.2.2)), (11, c.2.2.1)]) (c := (_, _, _, _, _, _, _, _, _)) hm); (focus rfl); (focus (simp only [push_cast, seval]; rfl)); (focus (simp only [push_cast, seval]; rfl)); (focus decide); (intro o hm); rotate_left; (focus ((intro _; repeat' (first | with_reducible exact impC_end | with_reducible refine impC_seq ?_ | with_reducible refine impC_block ?_ | ((with_reducible refine impC_rnd ?_); intro _) | ((with_reducible refine impC_brk ?_); intro _))))); (intro s hm); rotate_left)) | (((apply K_enter (site := 300000) (M := st [(0, _), (41, _), (47, _), (48, _), (51, _), (69, _), (70, _), (71, _), (84, _), (85, _), (86, _)] [(2, _), (100002, _), (200006, _), (240010, _), (300009, _), (300011, _), (300025, _), (301808, _), (340030, _), (400006, _), (440020, _)])); (focus ((apply imp_stT; (repeat' (first | with_reducible exact keepT_nil | with_reducible exact keepC_nil | with_reducible apply keepT_cons | with_reducible apply keepC_cons | ((with_reducible apply svle_eq); (focus (first | (simp only [push_cast, seval]; rfl))); (focus ((repeat' (first | rfl)); done))) | ((with_reducible apply chle_eq); (focus (first | (simp only [push_cast, seval]; rfl))); (first | with_reducible exact chle_rfl rfl)))); done))); unfold sc_interchange_wire_splitter_begin)) | (((apply K_inlN (site := 300000) (M := st [(1, _), (7, _), (8, _), (11, _), (29, _), (30, _), (31, _), (44, _), (45, _), (46, _), (57, _)] [(9, _), (11, _), (25, _), (1808, _), (40030, _), (100002, _), (200006, _), (240010, _), (300002, _), (400006, _), (440020, _)])); (focus (simp only [push_cast, seval]; rfl)); (focus ((apply imp_stT; (repeat' (first | with_reducible exact keepT_nil | with_reducible exact keepC_nil | with_reducible apply keepT_cons | with_reducible apply keepC_cons | ((with_reducible apply svle_eq); (focus (first | (simp only [push_cast, seval]; rfl))); (focus ((repeat' (first | rfl)); done))) | ((with_reducible apply chle_eq); (focus (first | (simp only [push_cast, seval]; rfl))); (first | with_reducible exact chle_rfl rfl)))); done))))) | (((apply S_inlx (site := 400000) (X := sc_wire_Split_I19) rfl); (focus rfl); (focus (simp only [push_cast, seval]; rfl)); (focus (simp only [push_cast, seval]; rfl)); (focus decide))) | (((apply K_enter (site := 400000) (M := st [(0, _), (1, _), (62, _), (68, _), (69, _), (72, _), (90, _), (91, _), (92, _), (105, _), (106, _), (107, _)] [(6, _), (40020, _), (100002, _), (200006, _), (240010, _), (300002, _), (400009, _), (400011, _), (400025, _), (401808, _), (440030, _)])); (focus ((apply imp_stT; (repeat' (first | with_reducible exact keepT_nil | with_reducible exact keepC_nil | with_reducible apply keepT_cons | with_reducible apply keepC_cons | ((with_reducible apply svle_eq); (focus (first | (simp only [push_cast, seval]; rfl))); (focus ((repeat' (first | rfl)); done))) | ((with_reducible apply chle_eq); (focus (first | (simp only [push_cast, seval]; rfl))); (first | with_reducible exact chle_rfl rfl)))); done))); unfold sc_interchange_wire_splitter_group)) | (((apply K_inlR (site := 400000) (M := st [(1, _), (7, _), (8, _), (11, _), (29, _), (30, _), (31, _), (44, _), (45, _), (46, _), (64, _)] [(9, _), (11, _), (25, _), (1808, _), (40030, _), (100002, _), (200006, _), (240010, _), (300002, _), (400006, _), (440020, _)])); (focus (simp only [push_cast, seval]; rfl)); (focus ((apply imp_stT; (repeat' (first | with_reducible exact keepT_nil | with_reducible exact keepC_nil | with_reducible apply keepT_cons | with_reducible apply keepC_cons | ((with_reducible apply svle_eq); (focus (first | (simp only [push_cast, seval]; rfl))); (focus ((repeat' (first | rfl)); done))) | ((with_reducible apply chle_eq); (focus (first | (simp only [push_cast, seval]; rfl))); (first | with_reducible exact chle_rfl rfl)))); done))))) | (((apply W_openPs (x0 := sc_wire_Split_R20) 40030 12 (id := 440020) (off := 2) (n' := 4) (row := rTapi_Group) (ms := [.sh, .sh, .sl 46 [.sh, .sh, .sh, .sh]]) (row' := rTapi_Message) (fld := fun x : Tapi_Group => x.fMessages) (cells := fun x => [.d (.str x.fRef), .d (.str x.fKind), .vec 40030])); (focus (simp only [push_cast, seval]; rfl)); (focus (simp only [push_cast, seval]; rfl)); (focus exact getI_get (by assumption)); (focus rfl); (focus (intro _; rfl)); (focus (intro _; rfl)); (focus decide); (focus (intro _; rfl)); unfold sc_wire_Split_R20)) | (((apply W_openP (x0 := sc_interchange_wire_splitter_group_R4) 40010 5 (id := 201808) (off := 6) (n' := 3) (row := rTapi_Interchange) (ms := [.sh, .sh, .sh, .sh, .sh, .sh, .sl 41 [.sh, .sh, .sl 46 [.sh, .sh, .sh, .sh]]]) (row' := rTapi_Group) (ms' := [.sh, .sh, .sl 46 [.sh, .sh, .sh, .sh]]) (fld := fun x : Tapi_Interchange => x.fGroups) (cells := fun x => [.d (.str x.fRef), .d (.str x.fSender), .d (.str x.fReceiver), .d (.int .i64 x.fDay), .d (.int .i64 x.fSecond), .d (.bool x.fTest), .vec 40010])); (focus (simp only [push_cast, seval]; rfl)); (focus (simp only [push_cast, seval]; rfl)); (focus exact getI_get (by assumption)); (focus rfl); (focus (intro _; rfl)); (focus (intro _; rfl)); (focus decide); (focus rfl); unfold sc_interchange_wire_splitter_group_R4)) | (((apply W_openP (x0 := sc_interchange_wire_splitter_group_R6) 40010 5 (id := 201808) (off := 6) (n' := 3) (row := rTapi_Interchange) (ms := [.sh, .sh, .sh, .sh, .sh, .sh, .sl 41 [.sh, .sh, .sl 46 [.sh, .sh, .sh, .sh]]]) (row' := rTapi_Group) (ms' := [.sh, .sh, .sl 46 [.sh, .sh, .sh, .sh]]) (fld := fun x : Tapi_Interchange => x.fGroups) (cells := fun x => [.d (.str x.fRef), .d (.str x.fSender), .d (.str x.fReceiver), .d (.int .i64 x.fDay), .d (.int .i64 x.fSecond), .d (.bool x.fTest), .vec 40010])); (focus (simp only [push_cast, seval]; rfl)); (focus (simp only [push_cast, seval]; rfl)); (focus exact getI_get (by assumption)); (focus rfl); (focus (intro _; rfl)); (focus (intro _; rfl)); (focus decide); (focus rfl); unfold sc_interchange_wire_splitter_group_R6)) | (((apply W_openP (x0 := sc_interchange_wire_splitter_group_R4) 40020 5 (id := 401808) (off := 6) (n' := 3) (row := rTapi_Interchange) (ms := [.sh, .sh, .sh, .sh, .sh, .sh, .sl 41 [.sh, .sh, .sl 46 [.sh, .sh, .sh, .sh]]]) (row' := rTapi_Group) (ms' := [.sh, .sh, .sl 46 [.sh, .sh, .sh, .sh]]) (fld := fun x : Tapi_Interchange => x.fGroups) (cells := fun x => [.d (.str x.fRef), .d (.str x.fSender), .d (.str x.fReceiver), .d (.int .i64 x.fDay), .d (.int .i64 x.fSecond), .d (.bool x.fTest), .vec 40020])); (focus (simp only [push_cast, seval]; rfl)); (focus (simp only [push_cast, seval]; rfl)); (focus exact getI_get (by assumption)); (focus rfl); (focus (intro _; rfl)); (focus (intro _; rfl)); (focus decide); (focus rfl); unfold sc_interchange_wire_splitter_group_R4)) | (((apply W_openP (x0 := sc_interchange_wire_splitter_group_R6) 40020 5 (id := 401808) (off := 6) (n' := 3) (row := rTapi_Interchange) (ms := [.sh, .sh, .sh, .sh, .sh, .sh, .sl 41 [.sh, .sh, .sl 46 [.sh, .sh, .sh, .sh]]]) (row' := rTapi_Group) (ms' := [.sh, .sh, .sl 46 [.sh, .sh, .sh, .sh]]) (fld := fun x : Tapi_Interchange => x.fGroups) (cells := fun x => [.d (.str x.fRef), .d (.str x.fSender), .d (.str x.fReceiver), .d (.int .i64 x.fDay), .d (.int .i64 x.fSecond), .d (.bool x.fTest), .vec 40020])); (focus (simp only [push_cast, seval]; rfl)); (focus (simp only [push_cast, seval]; rfl)); (focus exact getI_get (by assumption)); (focus rfl); (focus (intro _; rfl)); (focus (intro _; rfl)); (focus decide); (focus rfl); unfold sc_interchange_wire_splitter_group_R6)) | (((with_reducible apply W_same sc_interchange_wire_splitter_group_R6); unfold sc_interchange_wire_splitter_group_R6)) | ((apply K_next (s' := (_, _, _, _, _, _)) hm); (focus (first | (dsimp only; done))); (focus ((try ((apply Imp.trans); (focus ((apply imp_closeW (id := 1808) (cid := 240010) (off := 6) (n' := 3) (row := rTapi_Interchange) (ms := [.sh, .sh, .sh, .sh, .sh, .sh, .sl 41 [.sh, .sh, .sl 46 [.sh, .sh, .sh, .sh]]]) (row' := rTapi_Group) (ms' := [.sh, .sh, .sl 46 [.sh, .sh, .sh, .sh]]) (x' := Tapi_Interchange.mk _ _ _ _ _ _ _)); (focus (simp only [push_cast, seval]; rfl)); (focus (simp only [push_cast, seval]; rfl)); rotate_left; (focus rfl); (focus ((repeat' (fail)); done)); (focus rfl); (focus rfl); (focus (intro _; rfl)); (focus exact Nat.lt_of_sub_pos (Nat.zero_lt_succ _)); (focus (simp only [push_cast, seval]; rfl)); (focus decide); (focus exact getI_get (by assumption)))))); (try ((apply Imp.trans); (focus ((apply imp_closeX (id := 440020) (cid := 40030) (off := 2) (n' := 4) (row := rTapi_Group) (ms := [.sh, .sh, .sl 46 [.sh, .sh, .sh, .sh]]) (row' := rTapi_Message) (x' := Tapi_Group.mk _ _ _)); (focus (simp only [push_cast, seval]; rfl)); rotate_left; (focus rfl); (focus (simp only [push_cast, seval]; rfl)); (focus ((repeat' (first | (with_reducible first | apply r_rfl))); done)); (focus rfl); (focus (intro _; rfl)); (focus exact Nat.lt_of_sub_pos (Nat.zero_lt_succ _)); (focus (simp only [push_cast, seval]; rfl)); (focus decide); (focus exact getI_get (by assumption)))))); (try ((apply Imp.trans); (focus ((apply imp_closeW (id := 1808) (cid := 440020) (off := 6) (n' := 3) (row := rTapi_Interchange) (ms := [.sh, .sh, .sh, .sh, .sh, .sh, .sl 41 [.sh, .sh, .sl 46 [.sh, .sh, .sh, .sh]]]) (row' := rTapi_Group) (ms' := [.sh, .sh, .sl 46 [.sh, .sh, .sh, .sh]]) (x' := Tapi_Interchange.mk _ _ _ _ _ _ _)); (focus (simp only [push_cast, seval]; rfl)); (focus (simp only [push_cast, seval]; rfl)); rotate_left; (focus rfl); (focus ((repeat' (first | (with_reducible first | apply r_rflO))); done)); (focus rfl); (focus rfl); (focus (intro _; rfl)); (focus exact Nat.lt_of_sub_pos (Nat.zero_lt_succ _)); (focus (simp only [push_cast, seval]; rfl)); (focus decide); (focus exact getI_get (by assumption)))))); (try ((apply Imp.trans); (focus ((apply imp_closeW (id := 201808) (cid := 40010) (off := 6) (n' := 3) (row := rTapi_Interchange) (ms := [.sh, .sh, .sh, .sh, .sh, .sh, .sl 41 [.sh, .sh, .sl 46 [.sh, .sh, .sh, .sh]]]) (row' := rTapi_Group) (ms' := [.sh, .sh, .sl 46 [.sh, .sh, .sh, .sh]]) (x' := Tapi_Interchange.mk _ _ _ _ _ _ _)); (focus (simp only [push_cast, seval]; rfl)); (focus (simp only [push_cast, seval]; rfl)); rotate_left; (focus rfl); (focus ((repeat' (fail)); done)); (focus rfl); (focus rfl); (focus (intro _; rfl)); (focus exact Nat.lt_of_sub_pos (Nat.zero_lt_succ _)); (focus (simp only [push_cast, seval]; rfl)); (focus decide); (focus exact getI_get (by assumption)))))); (try ((apply Imp.trans); (focus ((apply imp_closeW (id := 401808) (cid := 40020) (off := 6) (n' := 3) (row := rTapi_Interchange) (ms := [.sh, .sh, .sh, .sh, .sh, .sh, .sl 41 [.sh, .sh, .sl 46 [.sh, .sh, .sh, .sh]]]) (row' := rTapi_Group) (ms' := [.sh, .sh, .sl 46 [.sh, .sh, .sh, .sh]]) (x' := Tapi_Interchange.mk _ _ _ _ _ _ _)); (focus (simp only [push_cast, seval]; rfl)); (focus (simp only [push_cast, seval]; rfl)); rotate_left; (focus rfl); (focus ((repeat' (fail)); done)); (focus rfl); (focus rfl); (focus (intro _; rfl)); (focus exact Nat.lt_of_sub_pos (Nat.zero_lt_succ _)); (focus (simp only [push_cast, seval]; rfl)); (focus decide); (focus exact getI_get (by assumption)))))); (try ((apply Imp.trans); (focus ((apply imp_normO 1808 [.sh, .sh, .sh, .sh, .sh, .sh, .sl 41 [.sh, .sh, .sl 46 [.sh, .sh, .sh, .sh]]] rTapi_Interchange); (focus (simp only [push_cast, seval]; rfl)); (focus ((repeat' (fail)); done)))))); (try ((apply Imp.trans); (focus ((apply imp_norm1 1808 [.sh, .sh, .sh, .sh, .sh, .sh, .sl 41 [.sh, .sh, .sl 46 [.sh, .sh, .sh, .sh]]] rTapi_Interchange); (focus (simp only [push_cast, seval]; rfl)); (focus ((repeat' (fail)); done)))))); (try ((apply Imp.trans); (focus ((apply imp_normO 101808 [.sh, .sh, .sh, .sh, .sh, .sh, .sl 41 [.sh, .sh, .sl 46 [.sh, .sh, .sh, .sh]]] rTapi_Interchange); (focus (simp only [push_cast, seval]; rfl)); (focus ((repeat' (fail)); done)))))); (try ((apply Imp.trans); (focus ((apply imp_norm1 101808 [.sh, .sh, .sh, .sh, .sh, .sh, .sl 41 [.sh, .sh, .sl 46 [.sh, .sh, .sh, .sh]]] rTapi_Interchange); (focus (simp only [push_cast, seval]; rfl)); (focus ((repeat' (fail)); done)))))); (try ((apply Imp.trans); (focus ((apply imp_normO 201808 [.sh, .sh, .sh, .sh, .sh, .sh, .sl 41 [.sh, .sh, .sl 46 [.sh, .sh, .sh, .sh]]] rTapi_Interchange); (focus (simp only [push_cast, seval]; rfl)); (focus ((repeat' (fail)); done)))))); (try ((apply Imp.trans); (focus ((apply imp_norm1 201808 [.sh, .sh, .sh, .sh, .sh, .sh, .sl 41 [.sh, .sh, .sl 46 [.sh, .sh, .sh, .sh]]] rTapi_Interchange); (focus (simp only [push_cast, seval]; rfl)); (focus ((repeat' (fail)); done)))))); (try ((apply Imp.trans); (focus ((apply imp_normO 301808 [.sh, .sh, .sh, .sh, .sh, .sh, .sl 41 [.sh, .sh, .sl 46 [.sh, .sh, .sh, .sh]]] rTapi_Interchange); (focus (simp only [push_cast, seval]; rfl)); (focus ((repeat' (fail)); done)))))); (try ((apply Imp.trans); (focus ((apply imp_norm1 301808 [.sh, .sh, .sh, .sh, .sh, .sh, .sl 41 [.sh, .sh, .sl 46 [.sh, .sh, .sh, .sh]]] rTapi_Interchange); (focus (simp only [push_cast, seval]; rfl)); (focus ((repeat' (fail)); done)))))); (try ((apply Imp.trans); (focus ((apply imp_normO 401808 [.sh, .sh, .sh, .sh, .sh, .sh, .sl 41 [.sh, .sh, .sl 46 [.sh, .sh, .sh, .sh]]] rTapi_Interchange); (focus (simp only [push_cast, seval]; rfl)); (focus ((repeat' (fail)); done)))))); (try ((apply Imp.trans); (focus ((apply imp_norm1 401808 [.sh, .sh, .sh, .sh, .sh, .sh, .sl 41 [.sh, .sh, .sl 46 [.sh, .sh, .sh, .sh]]] rTapi_Interchange); (focus (simp only [push_cast, seval]; rfl)); (focus ((repeat' (fail)); done)))))); (apply imp_stT; (repeat' (first | with_reducible exact keepT_nil | with_reducible exact keepC_nil | with_reducible apply keepT_cons | with_reducible apply keepC_cons | ((with_reducible apply svle_eq); (focus (first | (simp only [push_cast, seval]; rfl))); (focus ((repeat' (first | rfl)); done))) | ((with_reducible apply chle_eq); (focus (first | (simp only [push_cast, seval]; rfl))); (first | with_reducible exact chle_rfl rfl)))); done)))) | ((apply K_brk (s' := (_, _, _, _, _, _)) hm); (focus (first | (dsimp only; done))); (focus ((apply imp_stT; (repeat' (first | with_reducible exact keepT_nil | with_reducible exact keepC_nil | with_reducible apply keepT_cons | with_reducible apply keepC_cons | ((with_reducible apply svle_eq); (focus (first | (simp only [push_cast, seval]; rfl))); (focus ((repeat' (first | rfl)); done))) | ((with_reducible apply chle_eq); (focus (first | (simp only [push_cast, seval]; rfl))); (first | with_reducible exact chle_rfl rfl)))); done)))) | ((apply K_next (s' := (_, _, _, _, _)) hm); (focus (first | (dsimp only; done))); (focus ((try ((apply Imp.trans); (focus ((apply imp_closeW (id := 1808) (cid := 240010) (off := 6) (n' := 3) (row := rTapi_Interchange) (ms := [.sh, .sh, .sh, .sh, .sh, .sh, .sl 41 [.sh, .sh, .sl 46 [.sh, .sh, .sh, .sh]]]) (row' := rTapi_Group) (ms' := [.sh, .sh, .sl 46 [.sh, .sh, .sh, .sh]]) (x' := Tapi_Interchange.mk _ _ _ _ _ _ _)); (focus (simp only [push_cast, seval]; rfl)); (focus (simp only [push_cast, seval]; rfl)); rotate_left; (focus rfl); (focus ((repeat' (first | (with_reducible first | apply r_rflO))); done)); (focus rfl); (focus rfl); (focus (intro _; rfl)); (focus exact Nat.lt_of_sub_pos (Nat.zero_lt_succ _)); (focus (simp only [push_cast, seval]; rfl)); (focus decide); (focus exact getI_get (by assumption)))))); (try ((apply Imp.trans); (focus ((apply imp_closeX (id := 440020) (cid := 40030) (off := 2) (n' := 4) (row := rTapi_Group) (ms := [.sh, .sh, .sl 46 [.sh, .sh, .sh, .sh]]) (row' := rTapi_Message) (x' := Tapi_Group.mk _ _ _)); (focus (simp only [push_cast, seval]; rfl)); rotate_left; (focus rfl); (focus (simp only [push_cast, seval]; rfl)); (focus ((repeat' (fail)); done)); (focus rfl); (focus (intro _; rfl)); (focus exact Nat.lt_of_sub_pos (Nat.zero_lt_succ _)); (focus (simp only [push_cast, seval]; rfl)); (focus decide); (focus exact getI_get (by assumption)))))); (try ((apply Imp.trans); (focus ((apply imp_closeW (id := 1808) (cid := 440020) (off := 6) (n' := 3) (row := rTapi_Interchange) (ms := [.sh, .sh, .sh, .sh, .sh, .sh, .sl 41 [.sh, .sh, .sl 46 [.sh, .sh, .sh, .sh]]]) (row' := rTapi_Group) (ms' := [.sh, .sh, .sl 46 [.sh, .sh, .sh, .sh]]) (x' := Tapi_Interchange.mk _ _ _ _ _ _ _)); (focus (simp only [push_cast, seval]; rfl)); (focus (simp only [push_cast, seval]; rfl)); rotate_left; (focus rfl); (focus ((repeat' (fail)); done)); (focus rfl); (focus rfl); (focus (intro _; rfl)); (focus exact Nat.lt_of_sub_pos (Nat.zero_lt_succ _)); (focus (simp only [push_cast, seval]; rfl)); (focus decide); (focus exact getI_get (by assumption)))))); (try ((apply Imp.trans); (focus ((apply imp_closeW (id := 201808) (cid := 40010) (off := 6) (n' := 3) (row := rTapi_Interchange) (ms := [.sh, .sh, .sh, .sh, .sh, .sh, .sl 41 [.sh, .sh, .sl 46 [.sh, .sh, .sh, .sh]]]) (row' := rTapi_Group) (ms' := [.sh, .sh, .sl 46 [.sh, .sh, .sh, .sh]]) (x' := Tapi_Interchange.mk _ _ _ _ _ _ _)); (focus (simp only [push_cast, seval]; rfl)); (focus (simp only [push_cast, seval]; rfl)); rotate_left; (focus rfl); (focus ((repeat' (fail)); done)); (focus rfl); (focus rfl); (focus (intro _; rfl)); (focus exact Nat.lt_of_sub_pos (Nat.zero_lt_succ _)); (focus (simp only [push_cast, seval]; rfl)); (focus decide); (focus exact getI_get (by assumption)))))); (try ((apply Imp.trans); (focus ((apply imp_closeW (id := 401808) (cid := 40020) (off := 6) (n' := 3) (row := rTapi_Interchange) (ms := [.sh, .sh, .sh, .sh, .sh, .sh, .sl 41 [.sh, .sh, .sl 46 [.sh, .sh, .sh, .sh]]]) (row' := rTapi_Group) (ms' := [.sh, .sh, .sl 46 [.sh, .sh, .sh, .sh]]) (x' := Tapi_Interchange.mk _ _ _ _ _ _ _)); (focus (simp only [push_cast, seval]; rfl)); (focus (simp only [push_cast, seval]; rfl)); rotate_left; (focus rfl); (focus ((repeat' (fail)); done)); (focus rfl); (focus rfl); (focus (intro _; rfl)); (focus exact Nat.lt_of_sub_pos (Nat.zero_lt_succ _)); (focus (simp only [push_cast, seval]; rfl)); (focus decide); (focus exact getI_get (by assumption)))))); (try ((apply Imp.trans); (focus ((apply imp_normO 1808 [.sh, .sh, .sh, .sh, .sh, .sh, .sl 41 [.sh, .sh, .sl 46 [.sh, .sh, .sh, .sh]]] rTapi_Interchange); (focus (simp only [push_cast, seval]; rfl)); (focus ((repeat' (fail)); done)))))); (try ((apply Imp.trans); (focus ((apply imp_norm1 1808 [.sh, .sh, .sh, .sh, .sh, .sh, .sl 41 [.sh, .sh, .sl 46 [.sh, .sh, .sh, .sh]]] rTapi_Interchange); (focus (simp only [push_cast, seval]; rfl)); (focus ((repeat' (first | (with_reducible first | apply r_oneO | apply oT_Tapi_Interchange) | ((with_reducible apply svle_rfl); (focus ((repeat' (first | rfl)); done))) | ((with_reducible apply cle_nilM); (focus rfl)))); done)))))); (try ((apply Imp.trans); (focus ((apply imp_normO 101808 [.sh, .sh, .sh, .sh, .sh, .sh, .sl 41 [.sh, .sh, .sl 46 [.sh, .sh, .sh, .sh]]] rTapi_Interchange); (focus (simp only [push_cast, seval]; rfl)); (focus ((repeat' (fail)); done)))))); (try ((apply Imp.trans); (focus ((apply imp_norm1 101808 [.sh, .sh, .sh, .sh, .sh, .sh, .sl 41 [.sh, .sh, .sl 46 [.sh, .sh, .sh, .sh]]] rTapi_Interchange); (focus (simp only [push_cast, seval]; rfl)); (focus ((repeat' (fail)); done)))))); (try ((apply Imp.trans); (focus ((apply imp_normO 201808 [.sh, .sh, .sh, .sh, .sh, .sh, .sl 41 [.sh, .sh, .sl 46 [.sh, .sh, .sh, .sh]]] rTapi_Interchange); (focus (simp only [push_cast, seval]; rfl)); (focus ((repeat' (fail)); done)))))); (try ((apply Imp.trans); (focus ((apply imp_norm1 201808 [.sh, .sh, .sh, .sh, .sh, .sh, .sl 41 [.sh, .sh, .sl 46 [.sh, .sh, .sh, .sh]]] rTapi_Interchange); (focus (simp only [push_cast, seval]; rfl)); (focus ((repeat' (fail)); done)))))); (try ((apply Imp.trans); (focus ((apply imp_normO 301808 [.sh, .sh, .sh, .sh, .sh, .sh, .sl 41 [.sh, .sh, .sl 46 [.sh, .sh, .sh, .sh]]] rTapi_Interchange); (focus (simp only [push_cast, seval]; rfl)); (focus ((repeat' (fail)); done)))))); (try ((apply Imp.trans); (focus ((apply imp_norm1 301808 [.sh, .sh, .sh, .sh, .sh, .sh, .sl 41 [.sh, .sh, .sl 46 [.sh, .sh, .sh, .sh]]] rTapi_Interchange); (focus (simp only [push_cast, seval]; rfl)); (focus ((repeat' (fail)); done)))))); (try ((apply Imp.trans); (focus ((apply imp_normO 401808 [.sh, .sh, .sh, .sh, .sh, .sh, .sl 41 [.sh, .sh, .sl 46 [.sh, .sh, .sh, .sh]]] rTapi_Interchange); (focus (simp only [push_cast, seval]; rfl)); (focus ((repeat' (fail)); done)))))); (try ((apply Imp.trans); (focus ((apply imp_norm1 401808 [.sh, .sh, .sh, .sh, .sh, .sh, .sl 41 [.sh, .sh, .sl 46 [.sh, .sh, .sh, .sh]]] rTapi_Interchange); (focus (simp only [push_cast, seval]; rfl)); (focus ((repeat' (fail)); done)))))); (apply imp_stT; (repeat' (first | with_reducible exact keepT_nil | with_reducible exact keepC_nil | with_reducible apply keepT_cons | with_reducible apply keepC_cons | ((with_reducible apply svle_eq); (focus (first | (simp only [push_cast, seval]; rfl))); (focus ((repeat' (first | rfl)); done))) | ((with_reducible apply chle_eq); (focus (first | (simp only [push_cast, seval]; rfl))); (first | with_reducible exact chle_rfl rfl)))); done)))) | ((apply K_next (s' := _) hm); (focus (first | (dsimp only; done))); (focus ((try ((apply Imp.trans); (focus ((apply imp_closeW (id := 1808) (cid := 240010) (off := 6) (n' := 3) (row := rTapi_Interchange) (ms := [.sh, .sh, .sh, .sh, .sh, .sh, .sl 41 [.sh, .sh, .sl 46 [.sh, .sh, .sh, .sh]]]) (row' := rTapi_Group) (ms' := [.sh, .sh, .sl 46 [.sh, .sh, .sh, .sh]]) (x' := Tapi_Interchange.mk _ _ _ _ _ _ _)); (focus (simp only [push_cast, seval]; rfl)); (focus (simp only [push_cast, seval]; rfl)); rotate_left; (focus rfl); (focus ((repeat' (fail)); done)); (focus rfl); (focus rfl); (focus (intro _; rfl)); (focus exact Nat.lt_of_sub_pos (Nat.zero_lt_succ _)); (focus (simp only [push_cast, seval]; rfl)); (focus decide); (focus exact getI_get (by assumption)))))); (try ((apply Imp.trans); (focus ((apply imp_closeX (id := 440020) (cid := 40030) (off := 2) (n' := 4) (row := rTapi_Group) (ms := [.sh, .sh, .sl 46 [.sh, .sh, .sh, .sh]]) (row' := rTapi_Message) (x' := Tapi_Group.mk _ _ _)); (focus (simp only [push_cast, seval]; rfl)); rotate_left; (focus rfl); (focus (simp only [push_cast, seval]; rfl)); (focus ((repeat' (fail)); done)); (focus rfl); (focus (intro _; rfl)); (focus exact Nat.lt_of_sub_pos (Nat.zero_lt_succ _)); (focus (simp only [push_cast, seval]; rfl)); (focus decide); (focus exact getI_get (by assumption)))))); (try ((apply Imp.trans); (focus ((apply imp_closeW (id := 1808) (cid := 440020) (off := 6) (n' := 3) (row := rTapi_Interchange) (ms := [.sh, .sh, .sh, .sh, .sh, .sh, .sl 41 [.sh, .sh, .sl 46 [.sh, .sh, .sh, .sh]]]) (row' := rTapi_Group) (ms' := [.sh, .sh, .sl 46 [.sh, .sh, .sh, .sh]]) (x' := Tapi_Interchange.mk _ _ _ _ _ _ _)); (focus (simp only [push_cast, seval]; rfl)); (focus (simp only [push_cast, seval]; rfl)); rotate_left; (focus rfl); (focus ((repeat' (fail)); done)); (focus rfl); (focus rfl); (focus (intro _; rfl)); (focus exact Nat.lt_of_sub_pos (Nat.zero_lt_succ _)); (focus (simp only [push_cast, seval]; rfl)); (focus decide); (focus exact getI_get (by assumption)))))); (try ((apply Imp.trans); (focus ((apply imp_closeW (id := 201808) (cid := 40010) (off := 6) (n' := 3) (row := rTapi_Interchange) (ms := [.sh, .sh, .sh, .sh, .sh, .sh, .sl 41 [.sh, .sh, .sl 46 [.sh, .sh, .sh, .sh]]]) (row' := rTapi_Group) (ms' := [.sh, .sh, .sl 46 [.sh, .sh, .sh, .sh]]) (x' := Tapi_Interchange.mk _ _ _ _ _ _ _)); (focus (simp only [push_cast, seval]; rfl)); (focus (simp only [push_cast, seval]; rfl)); rotate_left; (focus rfl); (focus ((repeat' (fail)); done)); (focus rfl); (focus rfl); (focus (intro _; rfl)); (focus exact Nat.lt_of_sub_pos (Nat.zero_lt_succ _)); (focus (simp only [push_cast, seval]; rfl)); (focus decide); (focus exact getI_get (by assumption)))))); (try ((apply Imp.trans); (focus ((apply imp_closeW (id := 401808) (cid := 40020) (off := 6) (n' := 3) (row := rTapi_Interchange) (ms := [.sh, .sh, .sh, .sh, .sh, .sh, .sl 41 [.sh, .sh, .sl 46 [.sh, .sh, .sh, .sh]]]) (row' := rTapi_Group) (ms' := [.sh, .sh, .sl 46 [.sh, .sh, .sh, .sh]]) (x' := Tapi_Interchange.mk _ _ _ _ _ _ _)); (focus (simp only [push_cast, seval]; rfl)); (focus (simp only [push_cast, seval]; rfl)); rotate_left; (focus rfl); (focus ((repeat' (fail)); done)); (focus rfl); (focus rfl); (focus (intro _; rfl)); (focus exact Nat.lt_of_sub_pos (Nat.zero_lt_succ _)); (focus (simp only [push_cast, seval]; rfl)); (focus decide); (focus exact getI_get (by assumption)))))); (try ((apply Imp.trans); (focus ((apply imp_normO 1808 [.sh, .sh, .sh, .sh, .sh, .sh, .sl 41 [.sh, .sh, .sl 46 [.sh, .sh, .sh, .sh]]] rTapi_Interchange); (focus (simp only [push_cast, seval]; rfl)); (focus ((repeat' (fail)); done)))))); (try ((apply Imp.trans); (focus ((apply imp_norm1 1808 [.sh, .sh, .sh, .sh, .sh, .sh, .sl 41 [.sh, .sh, .sl 46 [.sh, .sh, .sh, .sh]]] rTapi_Interchange); (focus (simp only [push_cast, seval]; rfl)); (focus ((repeat' (fail)); done)))))); (try ((apply Imp.trans); (focus ((apply imp_normO 101808 [.sh, .sh, .sh, .sh, .sh, .sh, .sl 41 [.sh, .sh, .sl 46 [.sh, .sh, .sh, .sh]]] rTapi_Interchange); (focus (simp only [push_cast, seval]; rfl)); (focus ((repeat' (fail)); done)))))); (try ((apply Imp.trans); (focus ((apply imp_norm1 101808 [.sh, .sh, .sh, .sh, .sh, .sh, .sl 41 [.sh, .sh, .sl 46 [.sh, .sh, .sh, .sh]]] rTapi_Interchange); (focus (simp only [push_cast, seval]; rfl)); (focus ((repeat' (fail)); done)))))); (try ((apply Imp.trans); (focus ((apply imp_normO 201808 [.sh, .sh, .sh, .sh, .sh, .sh, .sl 41 [.sh, .sh, .sl 46 [.sh, .sh, .sh, .sh]]] rTapi_Interchange); (focus (simp only [push_cast, seval]; rfl)); (focus ((repeat' (fail)); done)))))); (try ((apply Imp.trans); (focus ((apply imp_norm1 201808 [.sh, .sh, .sh, .sh, .sh, .sh, .sl 41 [.sh, .sh, .sl 46 [.sh, .sh, .sh, .sh]]] rTapi_Interchange); (focus (simp only [push_cast, seval]; rfl)); (focus ((repeat' (fail)); done)))))); (try ((apply Imp.trans); (focus ((apply imp_normO 301808 [.sh, .sh, .sh, .sh, .sh, .sh, .sl 41 [.sh, .sh, .sl 46 [.sh, .sh, .sh, .sh]]] rTapi_Interchange); (focus (simp only [push_cast, seval]; rfl)); (focus ((repeat' (fail)); done)))))); (try ((apply Imp.trans); (focus ((apply imp_norm1 301808 [.sh, .sh, .sh, .sh, .sh, .sh, .sl 41 [.sh, .sh, .sl 46 [.sh, .sh, .sh, .sh]]] rTapi_Interchange); (focus (simp only [push_cast, seval]; rfl)); (focus ((repeat' (fail)); done)))))); (try ((apply Imp.trans); (focus ((apply imp_normO 401808 [.sh, .sh, .sh, .sh, .sh, .sh, .sl 41 [.sh, .sh, .sl 46 [.sh, .sh, .sh, .sh]]] rTapi_Interchange); (focus (simp only [push_cast, seval]; rfl)); (focus ((repeat' (fail)); done)))))); (try ((apply Imp.trans); (focus ((apply imp_norm1 401808 [.sh, .sh, .sh, .sh, .sh, .sh, .sl 41 [.sh, .sh, .sl 46 [.sh, .sh, .sh, .sh]]] rTapi_Interchange); (focus (simp only [push_cast, seval]; rfl)); (focus ((repeat' (fail)); done)))))); (apply imp_stT; (repeat' (first | with_reducible exact keepT_nil | with_reducible exact keepC_nil | with_reducible apply keepT_cons | with_reducible apply keepC_cons | ((with_reducible apply svle_eq); (focus (first | (simp only [push_cast, seval]; rfl))); (focus ((repeat' (first | rfl)); done))) | ((with_reducible apply chle_eq); (focus (first | (simp only [push_cast, seval]; rfl))); (first | with_reducible exact chle_rfl rfl)))); done)))) | ((apply K_brk (s' := _) hm); (focus (first | (dsimp only; done))); (focus ((apply imp_stT; (repeat' (first | with_reducible exact keepT_nil | with_reducible exact keepC_nil | with_reducible apply keepT_cons | with_reducible apply keepC_cons | ((with_reducible apply svle_eq); (focus (first | (simp only [push_cast, seval]; rfl))); (focus ((repeat' (first | rfl)); done))) | ((with_reducible apply chle_eq); (focus (first | (simp only [push_cast, seval]; rfl))); (first | with_reducible exact chle_rfl rfl)))); done)))) | (((with_reducible apply K_brkR hm); intro r hm)) | (((with_reducible apply LoopB.of); (focus (first | (dsimp only; done))); (focus ((intro _; repeat' (first | with_reducible exact impC_end | with_reducible refine impC_seq ?_ | with_reducible refine impC_block ?_ | ((with_reducible refine impC_rnd ?_); intro _) | ((with_reducible refine impC_brk ?_); intro _))))); (intro s o hm; first | unfold sc_wire_Split_L1 | unfold sc_wire_Split_L2 | unfold sc_wire_Split_L3); rotate_left; intro s hm)) | (((apply imp_stT; (repeat' (first | with_reducible exact keepT_nil | with_reducible exact keepC_nil | with_reducible apply keepT_cons | with_reducible apply keepC_cons | ((with_reducible apply svle_eq); (focus (first | (simp only [push_cast, seval]; rfl))); (focus ((repeat' (first | rfl)); done))) | ((with_reducible apply chle_eq); (focus (first | (simp only [push_cast, seval]; rfl))); (first | with_reducible exact chle_rfl rfl)))); done))))
noncomputable def m_wire_Split (x0 : Tapi_Interchange) (x1 : Int) : Option ((List Tapi_Interchange) × Int) := (sims_GS_1_0 x0 x1).1
theorem spec_wire_Split (x0 : Tapi_Interchange) (x1 : Int) : ∀ r, m_wire_Split x0 x1 = some r → PureSpec Tryz.prog 4 [.agg (rTapi_Interchange x0), .int .i64 x1] (.tup [.slice (List.map rTapi_Interchange r.1), .int .i64 r.2]) := (sims_GS_1_0 x0 x1).2

end Go.Proofs.YthcfbglbjipdaaaGreatDoor

/-
  slices.Clone at some types.
-/
namespace Go.Proofs.YthcfbglbjipdaaaGreatDoor
open Go.RowKit Go.Shelf Go.Lib
def m_slices_Clone_interchange_api_Message_interchange_api_Message (l : List Tapi_Message) : Option (List Tapi_Message) := if l.length ≤ 137438953472 then some l else none
theorem spec_slices_Clone_interchange_api_Message_interchange_api_Message (l : List Tapi_Message) : ∀ r, m_slices_Clone_interchange_api_Message_interchange_api_Message l = some r → FSpec Tryz.prog 22 (([.slice (List.map rTapi_Message l)] : List DV).map .d) (.own (.sl 46 (List.replicate 4 .sh)) (.slice (List.map rTapi_Message r))) (([.slice (List.map rTapi_Message l)] : List DV).map .d) := by
  intro r hr
  unfold m_slices_Clone_interchange_api_Message_interchange_api_Message at hr
  split at hr
  · rename_i hlen
    cases hr
    exact clone_own Tryz.lays41_22 (i0 := (Tryz.prog.info? 46).get (by kernel_rfl)) (z := ((Tryz.prog.info? 46).get (by kernel_rfl)).zero.get (by kernel_rfl)) (size := 4) (bytes := ((Tryz.prog.info? 46).get (by kernel_rfl)).bytes) (Option.some_get _).symm (Option.some_get _).symm (by kernel_rfl) rfl (by kernel_rfl) (by decide) (of_decide_eq_true (by kernel_rfl)) Tryz.sizeOf46 (by kernel_rfl) (List.map rTapi_Message l) (by intro r hr; obtain ⟨b, _, rfl⟩ := List.mem_map.1 hr; rfl) (by simpa using hlen)
  · cases hr
end Go.Proofs.YthcfbglbjipdaaaGreatDoor

/-
  Bodies of functions and what they compute, printed by programs of mine (wip/tool/gen.py, sc.py) out of the translation; the kernel holds each against the translation.
-/
namespace Go.Proofs.YthcfbglbjipdaaaGreatDoor
open Go.RowKit
set_option linter.unusedSimpArgs false
set_option linter.unusedVariables false
/-- interchange/wire.joins -/
def sc_wire_joins : SC :=
  (.seq (.reg [.r 3 (.boxI (.t 0)),
     .r 4 (.boxI (.t 1)),
     .r 6 (.mv (.c (.d (.int .i64 0))))])
  (.seq (.seq (.reg (.r 9 (.fld 1 (.t 4)) :: .o 10 (.ld1 (.t 9)) :: .r 11 (.fld 1 (.t 3)) :: .o 12 (.ld1 (.t 11)) :: .r 13 (.bin .neq (.t 10) (.t 12)) :: .r 14 (.mv (.t 13)) :: gapp [15, 16, 17, 18, 19] 14 false (.r 15 (.fld 2 (.t 4)) :: .r 16 (.ld1 (.t 15)) :: .r 17 (.fld 2 (.t 3)) :: .r 18 (.ld1 (.t 17)) :: .r 19 (.bin .neq (.t 16) (.t 18)) :: []) (.r 20 (.pick (.t 14) (.c (.d (.bool true))) (.t 19)) :: .r 21 (.mv (.t 20)) :: gapp [22, 23, 24, 25, 26] 21 false (.r 22 (.fld 3 (.t 4)) :: .r 23 (.ld1 (.t 22)) :: .r 24 (.fld 3 (.t 3)) :: .r 25 (.ld1 (.t 24)) :: .r 26 (.bin .neq (.t 23) (.t 25)) :: []) (.r 27 (.pick (.t 21) (.c (.d (.bool true))) (.t 26)) :: .r 28 (.mv (.t 27)) :: gapp [29, 30, 31, 32, 33] 28 false (.r 29 (.fld 4 (.t 4)) :: .r 30 (.ld1 (.t 29)) :: .r 31 (.fld 4 (.t 3)) :: .r 32 (.ld1 (.t 31)) :: .r 33 (.bin .neq (.t 30) (.t 32)) :: []) (.r 34 (.pick (.t 28) (.c (.d (.bool true))) (.t 33)) :: .r 35 (.mv (.t 34)) :: gapp [36, 37, 38, 39, 40] 35 false (.r 36 (.fld 5 (.t 4)) :: .r 37 (.ld1 (.t 36)) :: .r 38 (.fld 5 (.t 3)) :: .r 39 (.ld1 (.t 38)) :: .r 40 (.binB .neq (.t 37) (.t 39)) :: []) (.r 41 (.pick (.t 35) (.c (.d (.bool true))) (.t 40)) :: []))))))
  (.cond (.t 41)
    (.seq (.reg [.r 6 (.mv (.c (.d (.int .i64 12))))])
    .ret)
    .skip))
  (.seq (.seq (.reg [.r 43 (.fld 0 (.t 4)),
     .o 44 (.ld1 (.t 43)),
     .r 45 (.fld 0 (.t 3)),
     .o 46 (.ld1 (.t 45)),
     .r 47 (.bin .add (.t 46) (.c (.d (.str [45])))),
     .c 48 (.f 36) [.t 44, .t 47],
     .r 42 (.mv (.t 48)),
     .r 49 (.ext (.t 42) 0),
     .r 50 (.ext (.t 42) 1),
     .r 7 (.mv (.t 49)),
     .r 8 (.mv (.t 50))])
  (.seq (.reg (.r 51 (.mv (.t 8)) :: .r 52 (.not (.t 51)) :: .r 53 (.mv (.t 52)) :: gapp [54, 55, 56, 57] 53 false (.r 54 (.mv (.t 7)) :: .r 55 (.mv (.t 2)) :: .c 56 (.f 18) [.t 55] :: .r 57 (.bin .neq (.t 54) (.t 56)) :: []) (.r 58 (.pick (.t 53) (.c (.d (.bool true))) (.t 57)) :: [])))
  (.cond (.t 58)
    (.seq (.reg [.r 6 (.mv (.c (.d (.int .i64 3))))])
    .ret)
    .skip)))
  (.seq (.reg [.r 6 (.mv (.c (.d (.int .i64 0))))])
  .ret))))
theorem fit_wire_joins : fits Tryz.prog 21 Tryz.f21 sc_wire_joins [.t 6] 3 = true := by kernel_rfl

set_option maxRecDepth 100000 in
set_option maxHeartbeats 40000000 in
noncomputable def sims_GM_0_0 : (∀ (x0 : Tapi_Interchange) (x1 : Tapi_Interchange) (x2 : Int), {m : Option (Int) // ∀ r, m = some r → PureSpec Tryz.prog 21 [.agg (rTapi_Interchange x0), .agg (rTapi_Interchange x1), .int .i64 x2] (.int .i64 r)}) := by
  (intro x0 x1 x2; apply Subtype.mk; intro r hm; apply pure_walk Tryz.func21 fit_wire_joins; unfold sc_wire_joins)
  repeat' (first | with_reducible refine W_seq ?_ | with_reducible refine W_reg ?_ | with_reducible refine W_skip ?_ | with_reducible refine W_ret ?_ | with_reducible refine O_nil ?_ | with_reducible refine K_seq ?_ | with_reducible refine K_seqR ?_ | with_reducible refine O_o2r ?_ | ((with_reducible apply O_r); (simp only [push_cast, seval]; rfl); (first | exact trivial)) | ((with_reducible apply O_strr hm); (iterate 2 (simp only [push_cast, seval]; rfl)); intro hm) | ((with_reducible apply O_or hm); (simp only [push_cast, seval]; rfl); rfl; intro v hm; rotate_left; intro v g hm) | ((with_reducible apply O_cF hm); (simp only [push_cast, seval]; rfl); (first | apply spec_strings_CutPrefix _ _ | apply spec_strconv_Itoa _); (any_goals ((repeat' (first | rfl)); done)); intro x hm) | ((with_reducible apply S_condB hm); (simp only [push_cast, seval]; rfl); intro hm; rotate_left; intro hm) | ((with_reducible apply K_endS hm); (focus (simp only [resOf, resL, RV.get, push_cast, seval]; rfl)); (focus ((repeat' (first | rfl)); done))) | ((with_reducible apply K_bool hm); (simp only [push_cast, seval]; rfl)))
noncomputable def m_wire_joins (x0 : Tapi_Interchange) (x1 : Tapi_Interchange) (x2 : Int) : Option (Int) := (sims_GM_0_0 x0 x1 x2).1
theorem spec_wire_joins (x0 : Tapi_Interchange) (x1 : Tapi_Interchange) (x2 : Int) : ∀ r, m_wire_joins x0 x1 x2 = some r → PureSpec Tryz.prog 21 [.agg (rTapi_Interchange x0), .agg (rTapi_Interchange x1), .int .i64 x2] (.int .i64 r) := (sims_GM_0_0 x0 x1 x2).2

def sc_wire_Merge_L1 : SC :=
  (.seq (.reg [.r 69 (.bin .lss (.t 68) (.t 67))])
  (.seq (.cond (.t 69)
    .skip
    (.exit 4))
  (.seq (.block 5 (.seq (.reg [.r 70 (.mv (.t 68)),
       .r 71 (.idx 4 (.t 66) (.t 68)),
       .o 72 (.ldA 4 (.t 71)),
       .w 12 (.boxM (.c (.agg [.d (.str []), .d (.str []), .d (.str []), .nils]))),
       .r 11 (.mv (.t 70)),
       .w 0 (.st 4 (.t 12) (.t 72))])
    (.regE [.r 73 (.fld 2 (.t 10)),
       .r 74 (.ld1 (.t 73)),
       .r 75 (.mv (.t 11)),
       .r 76 (.fld 3 (.t 12)),
       .r 77 (.ld1 (.t 76)),
       .c 78 (.f 14) [.t 77],
       .r 79 (.idx 4 (.t 74) (.t 75)),
       .r 80 (.fld 3 (.t 79)),
       .x 0 (.st 1 (.t 80) (.t 78)) []])))
  (.reg [.r 81 (.bin .add (.t 68) (.c (.d (.int .i64 1)))),
     .r 68 (.mv (.t 81))]))))
def sc_wire_Merge_B1 : SC := .block 4 (.loop sc_wire_Merge_L1)
def sc_wire_Merge_R28 : SC :=
  (.regE [.r 118 (.fld 6 (.t 4)),
   .r 119 (.ld1 (.t 118)),
   .r 120 (.mv (.t 13)),
   .r 121 (.fld 6 (.t 4)),
   .r 122 (.ld1 (.t 121)),
   .r 123 (.mv (.t 13)),
   .r 124 (.idx 3 (.t 122) (.t 123)),
   .r 125 (.fld 2 (.t 124)),
   .r 126 (.ld1 (.t 125)),
   .r 127 (.fld 2 (.t 10)),
   .r 128 (.ld1 (.t 127)),
   .x 129 (.app 46 4 (.t 126) (.t 128)) [(0, 118, .fld 6 (.t 4)), (1, 119, .ld1 (.t 118)), (2, 120, .mv (.t 13))],
   .r 130 (.idx 3 (.t 119) (.t 120)),
   .r 131 (.fld 2 (.t 130)),
   .x 0 (.st 1 (.t 131) (.t 129)) []])
def sc_wire_Merge_L2 : SC :=
  (.seq (.reg [.r 57 (.bin .lss (.t 56) (.t 55))])
  (.seq (.cond (.t 57)
    .skip
    (.exit 2))
  (.seq (.block 3 (.seq (.reg [.r 58 (.mv (.t 56)),
       .r 59 (.idx 3 (.t 54) (.t 56)),
       .o 60 (.ldA 3 (.t 59)),
       .w 10 (.boxM (.c (.agg [.d (.str []), .d (.str []), .nils]))),
       .r 9 (.mv (.t 58)),
       .w 0 (.st 3 (.t 10) (.t 60))])
    (.seq (.reg [.r 61 (.fld 2 (.t 10)),
       .o 62 (.ld1 (.t 61)),
       .p (some 63) (.f 22) [.t 62],
       .r 64 (.fld 2 (.t 10)),
       .w 0 (.st 1 (.t 64) (.t 63))])
    (.seq (.seq (.reg [.r 65 (.fld 2 (.t 10)),
       .o 66 (.ld1 (.t 65)),
       .r 67 (.len (.t 66)),
       .r 68 (.mv (.c (.d (.int .i64 0))))])
    sc_wire_Merge_B1)
    (.seq (.reg [.r 82 (.fld 6 (.t 4)),
       .o 83 (.ld1 (.t 82)),
       .r 84 (.len (.t 83)),
       .r 85 (.bin .sub (.t 84) (.c (.d (.int .i64 1)))),
       .r 13 (.mv (.t 85))])
    (.seq (.regD (.r 86 (.mv (.t 5)) :: .r 87 (.bin .gtr (.t 86) (.c (.d (.int .i64 0)))) :: .r 88 (.mv (.t 87)) :: gapp [89, 90] 88 true (.r 89 (.mv (.t 9)) :: .r 90 (.bin .eql (.t 89) (.c (.d (.int .i64 0)))) :: []) (.r 91 (.pick (.t 88) (.t 90) (.c (.d (.bool false)))) :: .r 92 (.mv (.t 91)) :: gapp [93, 94] 92 true (.r 93 (.mv (.t 13)) :: .r 94 (.bin .geq (.t 93) (.c (.d (.int .i64 0)))) :: []) (.r 95 (.pick (.t 92) (.t 94) (.c (.d (.bool false)))) :: .r 96 (.mv (.t 95)) :: gapp [97, 98, 99, 100, 101, 102, 103, 104, 105] 96 true (.r 97 (.fld 6 (.t 4)) :: .r 98 (.ld1 (.t 97)) :: .r 99 (.mv (.t 13)) :: .r 100 (.idx 3 (.t 98) (.t 99)) :: .r 101 (.fld 0 (.t 100)) :: .r 102 (.ld1 (.t 101)) :: .r 103 (.fld 0 (.t 10)) :: .r 104 (.ld1 (.t 103)) :: .r 105 (.bin .eql (.t 102) (.t 104)) :: []) (.r 106 (.pick (.t 96) (.t 105) (.c (.d (.bool false)))) :: .r 107 (.mv (.t 106)) :: gapp [108, 109, 110, 111, 112, 113, 114, 115, 116] 107 true (.r 108 (.fld 6 (.t 4)) :: .r 109 (.ld1 (.t 108)) :: .r 110 (.mv (.t 13)) :: .r 111 (.idx 3 (.t 109) (.t 110)) :: .r 112 (.fld 1 (.t 111)) :: .r 113 (.ld1 (.t 112)) :: .r 114 (.fld 1 (.t 10)) :: .r 115 (.ld1 (.t 114)) :: .r 116 (.bin .eql (.t 113) (.t 115)) :: []) (.r 117 (.pick (.t 107) (.t 116) (.c (.d (.bool false)))) :: []))))))
    (.cond (.t 117)
      sc_wire_Merge_R28
      (.reg [.r 132 (.fld 6 (.t 4)),
         .o 133 (.ld1 (.t 132)),
         .o 134 (.ldA 3 (.t 10)),
         .r 135 (.bslice 3 [.t 134]),
         .w 136 (.app 41 3 (.t 133) (.t 135)),
         .r 137 (.fld 6 (.t 4)),
         .w 0 (.st 1 (.t 137) (.t 136))]))))))))
  (.reg [.r 138 (.bin .add (.t 56) (.c (.d (.int .i64 1)))),
     .r 56 (.mv (.t 138))]))))
def sc_wire_Merge_B2 : SC := .block 2 (.loop sc_wire_Merge_L2)
def sc_wire_Merge_L3 : SC :=
  (.seq (.reg [.r 30 (.bin .lss (.t 29) (.t 28))])
  (.seq (.cond (.t 30)
    .skip
    (.exit 0))
  (.seq (.block 1 (.seq (.reg [.r 31 (.mv (.t 29)),
       .r 32 (.idx 7 (.t 27) (.t 29)),
       .o 33 (.ldA 7 (.t 32)),
       .w 6 (.boxM (.c (.agg [.d (.str []), .d (.str []), .d (.str []), .d (.int .i64 0), .d (.int .i64 0), .d (.bool false), .nils]))),
       .r 5 (.mv (.t 31)),
       .w 0 (.st 7 (.t 6) (.t 33))])
    (.seq (.seq (.reg [.o 34 (.ldA 7 (.t 6)),
       .c 35 (.f 10) [.t 34],
       .r 7 (.mv (.t 35))])
    (.seq (.reg [.r 36 (.mv (.t 7)),
       .r 37 (.bin .neq (.t 36) (.c (.d (.int .i64 0))))])
    (.cond (.t 37)
      (.seq (.reg [.r 38 (.build [.d (.str []), .d (.str []), .d (.str []), .d (.int .i64 0), .d (.int .i64 0), .d (.bool false), .nils] []),
         .r 39 (.mv (.t 7)),
         .w 0 (.st 7 (.t 2) (.t 38)),
         .r 3 (.mv (.t 39))])
      .ret)
      .skip)))
    (.seq (.seq (.reg [.r 40 (.mv (.t 5)),
       .r 41 (.bin .gtr (.t 40) (.c (.d (.int .i64 0))))])
    (.cond (.t 41)
      (.seq (.regD [.r 42 (.mv (.t 0)),
         .r 43 (.idx 7 (.t 42) (.c (.d (.int .i64 0)))),
         .r 44 (.ldA 7 (.t 43)),
         .r 45 (.ldA 7 (.t 6)),
         .r 46 (.mv (.t 5)),
         .r 47 (.bin .add (.t 46) (.c (.d (.int .i64 1)))),
         .c 48 (.f 21) [.t 44, .t 45, .t 47],
         .r 8 (.mv (.t 48))])
      (.seq (.reg [.r 49 (.mv (.t 8)),
         .r 50 (.bin .neq (.t 49) (.c (.d (.int .i64 0))))])
      (.cond (.t 50)
        (.seq (.reg [.r 51 (.build [.d (.str []), .d (.str []), .d (.str []), .d (.int .i64 0), .d (.int .i64 0), .d (.bool false), .nils] []),
           .r 52 (.mv (.t 8)),
           .w 0 (.st 7 (.t 2) (.t 51)),
           .r 3 (.mv (.t 52))])
        .ret)
        .skip)))
      .skip))
    (.seq (.reg [.r 53 (.fld 6 (.t 6)),
       .o 54 (.ld1 (.t 53)),
       .r 55 (.len (.t 54)),
       .r 56 (.mv (.c (.d (.int .i64 0))))])
    sc_wire_Merge_B2)))))
  (.reg [.r 139 (.bin .add (.t 29) (.c (.d (.int .i64 1)))),
     .r 29 (.mv (.t 139))]))))
def sc_wire_Merge_B3 : SC := .block 0 (.loop sc_wire_Merge_L3)
def sc_wire_Merge_R32 : SC := (.reg [.o 140 (.ldA 7 (.t 4)),
     .c 141 (.f 10) [.t 140],
     .r 14 (.mv (.t 141))])
/-- interchange/wire.Merge -/
def sc_wire_Merge : SC :=
  (.seq (.reg [.w 2 (.boxM (.c (.agg [.d (.str []), .d (.str []), .d (.str []), .d (.int .i64 0), .d (.int .i64 0), .d (.bool false), .nils]))),
     .r 3 (.mv (.c (.d (.int .i64 0))))])
  (.seq (.seq (.reg [.r 15 (.mv (.t 0)),
     .r 16 (.len (.t 15)),
     .r 17 (.bin .eql (.t 16) (.c (.d (.int .i64 0))))])
  (.cond (.t 17)
    (.seq (.reg [.r 18 (.build [.d (.str []), .d (.str []), .d (.str []), .d (.int .i64 0), .d (.int .i64 0), .d (.bool false), .nils] []),
       .w 0 (.st 7 (.t 2) (.t 18)),
       .r 3 (.mv (.c (.d (.int .i64 9))))])
    .ret)
    .skip))
  (.seq (.seq (.reg [.r 19 (.mv (.t 0)),
     .r 20 (.len (.t 19)),
     .r 21 (.bin .gtr (.t 20) (.c (.d (.int .i64 200))))])
  (.cond (.t 21)
    (.seq (.reg [.r 22 (.build [.d (.str []), .d (.str []), .d (.str []), .d (.int .i64 0), .d (.int .i64 0), .d (.bool false), .nils] []),
       .w 0 (.st 7 (.t 2) (.t 22)),
       .r 3 (.mv (.c (.d (.int .i64 2))))])
    .ret)
    .skip))
  (.seq (.reg [.r 23 (.mv (.t 0)),
     .r 24 (.idx 7 (.t 23) (.c (.d (.int .i64 0)))),
     .o 25 (.ldA 7 (.t 24)),
     .w 4 (.boxM (.c (.agg [.d (.str []), .d (.str []), .d (.str []), .d (.int .i64 0), .d (.int .i64 0), .d (.bool false), .nils]))),
     .w 0 (.st 7 (.t 4) (.t 25))])
  (.seq (.reg [.r 26 (.fld 6 (.t 4)),
     .w 0 (.st 1 (.t 26) (.c (.nils)))])
  (.seq (.seq (.reg [.r 27 (.mv (.t 0)),
     .r 28 (.len (.t 27)),
     .r 29 (.mv (.c (.d (.int .i64 0))))])
  sc_wire_Merge_B3)
  (.seq (.seq sc_wire_Merge_R32
  (.seq (.reg [.r 142 (.mv (.t 14)),
     .r 143 (.bin .neq (.t 142) (.c (.d (.int .i64 0))))])
  (.cond (.t 143)
    (.seq (.reg [.r 144 (.build [.d (.str []), .d (.str []), .d (.str []), .d (.int .i64 0), .d (.int .i64 0), .d (.bool false), .nils] []),
       .r 145 (.mv (.t 14)),
       .w 0 (.st 7 (.t 2) (.t 144)),
       .r 3 (.mv (.t 145))])
    .ret)
    .skip)))
  (.seq (.reg [.o 146 (.ldA 7 (.t 4)),
     .w 0 (.st 7 (.t 2) (.t 146)),
     .r 3 (.mv (.c (.d (.int .i64 0))))])
  .ret))))))))
theorem fit_wire_Merge : fits Tryz.prog 7 Tryz.f7 sc_wire_Merge [.cell 2 7, .t 3] 1 = true := by kernel_rfl

set_option maxRecDepth 100000 in
set_option maxHeartbeats 40000000 in
noncomputable def sims_GM_1_0 : (∀ (x0 : List Tapi_Interchange), {m : Option (Tapi_Interchange × Int) // ∀ r, m = some r → PureSpec Tryz.prog 7 [.slice (List.map rTapi_Interchange x0)] (.tup [.agg (rTapi_Interchange r.1), .int .i64 r.2])}) := by
  (intro x0; apply Subtype.mk; intro r hm; apply pure_walk Tryz.func7 fit_wire_Merge; unfold sc_wire_Merge)
  repeat' (first | ((with_reducible apply W_nilB (id := 4) (cid := 1134) (off := 6) (n := 3) (e := 41)); (focus (simp only [push_cast, seval]; (try rfl); done)); (focus (simp only [push_cast, seval]; (try rfl); done)); (focus decide); (focus (simp only [push_cast, seval]; (try rfl); done))) | ((with_reducible apply W_moveBV (id := 10) (c := 63) (cid := 1322) (off := 2) (n := 4) (e := 46)); (focus (simp only [push_cast, seval]; (try rfl); done)); (focus (simp only [push_cast, seval]; (try rfl); done)); (focus decide); (focus decide); (focus (simp only [push_cast, seval]; (try rfl); done)); (focus ((repeat' (first | (with_reducible first | apply r_rfl))); done)); (focus (intro _; rfl)); (focus (simp only [push_cast, seval]; (try rfl); done)); (focus (first | (simp only [push_cast, seval]; (try rfl); done))); (focus (simp only [push_cast, seval]; (try rfl); done))) | ((apply W_frz (x := sc_wire_Merge_R28) (id := 1322)); (focus (simp only [push_cast, seval]; (try rfl); done)); (focus (simp only [push_cast, seval]; (try rfl); done))) | ((apply W_frz (x := sc_wire_Merge_R32) (id := 1134)); (focus (simp only [push_cast, seval]; (try rfl); done)); (focus (simp only [push_cast, seval]; (try rfl); done)); unfold sc_wire_Merge_R32) | ((with_reducible apply W_closeA (id := 1134) (cid := 1322) (off := 2) (ms' := [.sh, .sh, .sh, .sh]) (row' := rTapi_Message)); (focus (simp only [push_cast, seval]; rfl)); (focus (simp only [push_cast, seval]; rfl)); (focus rfl); (focus ((repeat' (first | ((with_reducible apply r_shG); (focus rfl); (focus (intro _; rfl))))); done)); (focus rfl); (focus (intro _; rfl)); (focus decide)) | ((with_reducible apply W_normO 1134 [.sh, .sh, .sl 46 [.sh, .sh, .sh, .sh]] rTapi_Group); (focus (simp only [push_cast, seval]; rfl)); (focus ((repeat' (first | (with_reducible first | apply r_rflO | apply r_oneO | apply r_appO | apply oT_Tapi_Group) | ((with_reducible apply svle_rfl); (focus ((repeat' (first | rfl)); done))) | ((with_reducible apply cle_own); (focus rfl); (focus ((repeat' (first | rfl)); done))))); done))) | with_reducible refine W_seq ?_ | with_reducible refine W_reg ?_ | with_reducible refine W_regD ?_ | with_reducible refine W_regE ?_ | with_reducible refine W_block ?_ | with_reducible refine W_skip ?_ | with_reducible refine W_ret ?_ | with_reducible refine W_exit ?_ | with_reducible refine O_nil ?_ | with_reducible refine K_seq ?_ | with_reducible refine K_seqE ?_ | with_reducible refine K_seqR ?_ | with_reducible refine K_block ?_ | with_reducible refine K_blockR ?_ | with_reducible refine O_o2r ?_ | ((with_reducible apply O_idxr hm); (iterate 2 (simp only [push_cast, seval]; rfl)); (intro _; rfl); intro e hm) | ((with_reducible apply O_idxVr hm); (iterate 3 (simp only [push_cast, seval]; rfl)); intro e hm) | ((with_reducible apply O_idxVO hm); (iterate 2 (simp only [push_cast, seval]; rfl)); (focus (first | (simp only [push_cast, seval]; rfl))); (simp only [push_cast, seval]; rfl); intro e he hm) | ((with_reducible apply O_ldF); (iterate 2 (simp only [push_cast, seval]; rfl)); (focus (first | (simp only [push_cast, seval]; exact getI_lt (by assumption)))); (iterate 2 rfl)) | ((with_reducible apply O_ldGi); (iterate 2 (simp only [push_cast, seval]; rfl)); (focus exact getI_get (by assumption)); (iterate 2 rfl)) | ((with_reducible apply O_r); (simp only [push_cast, seval]; rfl); (first | exact trivial)) | ((with_reducible apply O_ldAVr hm); (iterate 2 (simp only [push_cast, seval]; rfl)); (intro _; rfl); intro e hm) | ((with_reducible apply O_and hm); (simp only [push_cast, seval]; rfl); rfl; intro v hm; rotate_left; intro v g hm) | ((with_reducible apply O_cF hm); (simp only [push_cast, seval]; rfl); (first | apply spec_wire_CheckInterchange _ | apply spec_wire_joins _ _ _ | apply spec_wire_CloneAll _); (any_goals ((repeat' (first | rfl | (with_reducible first | apply fT_Tapi_Interchange | apply f_agg | apply f_cons))); done)); intro x hm) | ((with_reducible apply O_w); (simp only [push_cast, seval]; rfl); (first | exact trivial)) | ((with_reducible apply O_appVO hm); (iterate 3 (simp only [push_cast, seval]; rfl)); rfl; (focus (first | exact all_len rfl)); intro hm) | ((with_reducible apply O_stFx); (simp only [push_cast, seval]; rfl); (focus (first | (simp only [push_cast, seval]; rfl))); (simp only [push_cast, seval]; rfl); (focus (first | (simp only [push_cast, seval]; exact getI_lt (by assumption)))); (focus (first | (simp only [push_cast, seval]; done))); rfl; (focus ((repeat' (first | exact Rer_nil)); done))) | ((with_reducible apply O_appVX hm); (iterate 2 (simp only [push_cast, seval]; rfl)); (focus ((repeat' (first | rfl)); done)); (simp only [push_cast, seval]; rfl); (focus ((repeat' (first | rfl)); done)); (intro _; rfl); (focus ((repeat' (first | exact Rer_nil | ((with_reducible apply Rer_cons); (focus (simp only [push_cast, seval]; rfl)); (focus (first | exact trivial)); (focus (simp only [push_cast, seval]))))); done)); intro hm) | ((with_reducible apply O_stVX hm); (iterate 3 (simp only [push_cast, seval]; rfl)); rfl; (intro _; rfl); rfl; (focus (intro a; simp only [push_cast, seval]; rfl)); (focus (intro a; (repeat' (first | rfl | with_reducible apply eT_Tapi_Message)); done)); (focus (intro _; (repeat' (first | exact Rer_nil)); done)); intro e hm) | ((with_reducible apply S_condB hm); (simp only [push_cast, seval]; rfl); intro hm; rotate_left; intro hm) | ((with_reducible apply K_end2 hm); (focus (simp only [resOf, resL, RV.get, push_cast, seval]; rfl)); (focus (first | (dsimp only; done))); (focus ((repeat' (first | rfl | (with_reducible first | apply fT_Tapi_Interchange | apply f_tup | apply f_agg | apply dv_slice | apply f_cons | apply fold_nil))); done))) | ((with_reducible apply K_bool hm); (simp only [push_cast, seval]; rfl)) | ((with_reducible apply K_leave hm); intro r hm) | ((with_reducible apply K_leaveR hm); intro r hm) | ((apply S_loopY (b := 4) (X := sc_wire_Merge_B1) (x := sc_wire_Merge_L1) rfl (fun (c : SV × Ch × SV × SV × SV × SV × SV × SV × SV × SV × SV) (s : (List UInt8) × (List UInt8) × (List UInt8) × Int × Int × Bool × (List Tapi_Group) × (List UInt8) × (List UInt8) × (List Tapi_Message) × Int) => st [(0, c.1), (2, .ref 2 0), (4, .ref 4 0), (5, c.2.2.1), (9, c.2.2.2.1), (10, .ref 10 0), (27, c.2.2.2.2.1), (28, c.2.2.2.2.2.1), (29, c.2.2.2.2.2.2.1), (54, c.2.2.2.2.2.2.2.1), (55, c.2.2.2.2.2.2.2.2.1), (56, c.2.2.2.2.2.2.2.2.2.1), (66, .vec 1322), (67, c.2.2.2.2.2.2.2.2.2.2), (68, .d (.int .i64 s.2.2.2.2.2.2.2.2.2.2))] [(1134, .vec 41 3 (vrowO [.sh, .sh, .sl 46 [.sh, .sh, .sh, .sh]] rTapi_Group s.2.2.2.2.2.2.1)), (4, .box (bT_Tapi_Interchange s.1 s.2.1 s.2.2.1 s.2.2.2.1 s.2.2.2.2.1 s.2.2.2.2.2.1 1134)), (1322, .vec 46 4 (vrow rTapi_Message s.2.2.2.2.2.2.2.2.2.1)), (10, .box (bT_Tapi_Group s.2.2.2.2.2.2.2.1 s.2.2.2.2.2.2.2.2.1 1322)), (2, c.2.1)]) (c := (_, _, _, _, _, _, _, _, _, _, _)) (s0 := (_, _, _, _, _, _, _, _, _, _, _)) hm); (focus (first | (dsimp only; done))); (with_reducible refine Then.mk ?_ ?_)) | ((apply S_loopY (b := 2) (X := sc_wire_Merge_B2) (x := sc_wire_Merge_L2) rfl (fun (c : SV × Ch × SV × SV × SV × SV × SV × SV) (s : (List UInt8) × (List UInt8) × (List UInt8) × Int × Int × Bool × (List Tapi_Group) × Int) => st [(0, c.1), (2, .ref 2 0), (4, .ref 4 0), (5, c.2.2.1), (27, c.2.2.2.1), (28, c.2.2.2.2.1), (29, c.2.2.2.2.2.1), (54, c.2.2.2.2.2.2.1), (55, c.2.2.2.2.2.2.2), (56, .d (.int .i64 s.2.2.2.2.2.2.2))] [(1134, .vec 41 3 (vrowO [.sh, .sh, .sl 46 [.sh, .sh, .sh, .sh]] rTapi_Group s.2.2.2.2.2.2.1)), (4, .box (bT_Tapi_Interchange s.1 s.2.1 s.2.2.1 s.2.2.2.1 s.2.2.2.2.1 s.2.2.2.2.2.1 1134)), (2, c.2.1)]) (c := (_, _, _, _, _, _, _, _)) (s0 := (_, _, _, _, _, _, _, _)) hm); (focus (first | (dsimp only; done))); (with_reducible refine Then.mk ?_ ?_)) | ((apply S_loopY (b := 0) (X := sc_wire_Merge_B3) (x := sc_wire_Merge_L3) rfl (fun (c : SV × SV × SV) (s : (List UInt8) × (List UInt8) × (List UInt8) × Int × Int × Bool × (List Tapi_Group) × Tapi_Interchange × Int) => st [(0, c.1), (2, .ref 2 0), (4, .ref 4 0), (27, c.2.1), (28, c.2.2), (29, .d (.int .i64 s.2.2.2.2.2.2.2.2))] [(1134, .vec 41 3 (vrowO [.sh, .sh, .sl 46 [.sh, .sh, .sh, .sh]] rTapi_Group s.2.2.2.2.2.2.1)), (4, .box (bT_Tapi_Interchange s.1 s.2.1 s.2.2.1 s.2.2.2.1 s.2.2.2.2.1 s.2.2.2.2.2.1 1134)), (2, .box (dR (rTapi_Interchange s.2.2.2.2.2.2.2.1)))]) (c := (_, _, _)) (s0 := (_, _, _, _, _, _, _, _, _)) hm); (focus (first | (dsimp only; done))); (with_reducible refine Then.mk ?_ ?_)) | (((apply W_openV (x0 := sc_wire_Merge_R28) 40010 13 (id := 1134) (off := 2) (n' := 4) (row := rTapi_Group) (ms := [.sh, .sh, .sl 46 [.sh, .sh, .sh, .sh]]) (row' := rTapi_Message) (fld := fun x : Tapi_Group => x.fMessages) (cells := fun x => [.d (.str x.fRef), .d (.str x.fKind), .vec 40010]) hm); (focus (simp only [push_cast, seval]; rfl)); (focus (simp only [push_cast, seval]; rfl)); (focus rfl); (focus rfl); (focus (intro _; rfl)); (focus (intro _; rfl)); (focus decide); (focus (intro _; rfl)); (intro x he hm; unfold sc_wire_Merge_R28))) | ((apply K_next (s' := (_, _, _, _, _, _, _, _, _, _, _)) hm); (focus (first | (dsimp only; done))); (focus ((try ((apply Imp.trans); (focus ((apply imp_closeX (id := 1134) (cid := 40010) (off := 2) (n' := 4) (row := rTapi_Group) (ms := [.sh, .sh, .sl 46 [.sh, .sh, .sh, .sh]]) (row' := rTapi_Message) (x' := Tapi_Group.mk _ _ _)); (focus (simp only [push_cast, seval]; rfl)); rotate_left; (focus rfl); (focus (simp only [push_cast, seval]; rfl)); (focus ((repeat' (fail)); done)); (focus rfl); (focus (intro _; rfl)); (focus exact Nat.lt_of_sub_pos (Nat.zero_lt_succ _)); (focus (simp only [push_cast, seval]; rfl)); (focus decide); (focus exact getI_get (by assumption)))))); (try ((apply Imp.trans); (focus ((apply imp_normO 1134 [.sh, .sh, .sl 46 [.sh, .sh, .sh, .sh]] rTapi_Group); (focus (simp only [push_cast, seval]; rfl)); (focus ((repeat' (fail)); done)))))); (try ((apply Imp.trans); (focus ((apply imp_norm1 1134 [.sh, .sh, .sl 46 [.sh, .sh, .sh, .sh]] rTapi_Group); (focus (simp only [push_cast, seval]; rfl)); (focus ((repeat' (fail)); done)))))); (apply imp_stT; (repeat' (first | with_reducible exact keepT_nil | with_reducible exact keepC_nil | with_reducible apply keepT_cons | with_reducible apply keepC_cons | ((with_reducible apply svle_eq); (focus (first | (simp only [push_cast, seval]; rfl))); (focus ((repeat' (first | rfl)); done))) | ((with_reducible apply chle_eq); (focus (first | (simp only [push_cast, seval]; rfl))); (first | with_reducible exact chle_rfl rfl)))); done)))) | ((apply K_brk (s' := (_, _, _, _, _, _, _, _, _, _, _)) hm); (focus (first | (dsimp only; done))); (focus ((apply imp_stT; (repeat' (first | with_reducible exact keepT_nil | with_reducible exact keepC_nil | with_reducible apply keepT_cons | with_reducible apply keepC_cons | ((with_reducible apply svle_eq); (focus (first | (simp only [push_cast, seval]; rfl))); (focus ((repeat' (first | rfl)); done))) | ((with_reducible apply chle_eq); (focus (first | (simp only [push_cast, seval]; rfl))); (first | with_reducible exact chle_rfl rfl)))); done)))) | ((apply K_next (s' := (_, _, _, _, _, _, _, _, _)) hm); (focus (first | (dsimp only; done))); (focus ((try ((apply Imp.trans); (focus ((apply imp_closeX (id := 1134) (cid := 40010) (off := 2) (n' := 4) (row := rTapi_Group) (ms := [.sh, .sh, .sl 46 [.sh, .sh, .sh, .sh]]) (row' := rTapi_Message) (x' := Tapi_Group.mk _ _ _)); (focus (simp only [push_cast, seval]; rfl)); rotate_left; (focus rfl); (focus (simp only [push_cast, seval]; rfl)); (focus ((repeat' (fail)); done)); (focus rfl); (focus (intro _; rfl)); (focus exact Nat.lt_of_sub_pos (Nat.zero_lt_succ _)); (focus (simp only [push_cast, seval]; rfl)); (focus decide); (focus exact getI_get (by assumption)))))); (try ((apply Imp.trans); (focus ((apply imp_normO 1134 [.sh, .sh, .sl 46 [.sh, .sh, .sh, .sh]] rTapi_Group); (focus (simp only [push_cast, seval]; rfl)); (focus ((repeat' (fail)); done)))))); (try ((apply Imp.trans); (focus ((apply imp_norm1 1134 [.sh, .sh, .sl 46 [.sh, .sh, .sh, .sh]] rTapi_Group); (focus (simp only [push_cast, seval]; rfl)); (focus ((repeat' (fail)); done)))))); (apply imp_stT; (repeat' (first | with_reducible exact keepT_nil | with_reducible exact keepC_nil | with_reducible apply keepT_cons | with_reducible apply keepC_cons | ((with_reducible apply svle_eq); (focus (first | (simp only [push_cast, seval]; rfl))); (focus ((repeat' (first | rfl)); done))) | ((with_reducible apply chle_eq); (focus (first | (simp only [push_cast, seval]; rfl))); (first | with_reducible exact chle_rfl rfl)))); done)))) | ((apply K_brk (s' := (_, _, _, _, _, _, _, _, _)) hm); (focus (first | (dsimp only; done))); (focus ((apply imp_stT; (repeat' (first | with_reducible exact keepT_nil | with_reducible exact keepC_nil | with_reducible apply keepT_cons | with_reducible apply keepC_cons | ((with_reducible apply svle_eq); (focus (first | (simp only [push_cast, seval]; rfl))); (focus ((repeat' (first | rfl)); done))) | ((with_reducible apply chle_eq); (focus (first | (simp only [push_cast, seval]; rfl))); (first | with_reducible exact chle_rfl rfl)))); done)))) | ((apply K_next (s' := (_, _, _, _, _, _, _, _)) hm); (focus (first | (dsimp only; done))); (focus ((try ((apply Imp.trans); (focus ((apply imp_closeX (id := 1134) (cid := 40010) (off := 2) (n' := 4) (row := rTapi_Group) (ms := [.sh, .sh, .sl 46 [.sh, .sh, .sh, .sh]]) (row' := rTapi_Message) (x' := Tapi_Group.mk _ _ _)); (focus (simp only [push_cast, seval]; rfl)); rotate_left; (focus rfl); (focus (simp only [push_cast, seval]; rfl)); (focus ((repeat' (first | (with_reducible first | apply r_rfl))); done)); (focus rfl); (focus (intro _; rfl)); (focus exact Nat.lt_of_sub_pos (Nat.zero_lt_succ _)); (focus (simp only [push_cast, seval]; rfl)); (focus decide); (focus exact getI_get (by assumption)))))); (try ((apply Imp.trans); (focus ((apply imp_normO 1134 [.sh, .sh, .sl 46 [.sh, .sh, .sh, .sh]] rTapi_Group); (focus (simp only [push_cast, seval]; rfl)); (focus ((repeat' (fail)); done)))))); (try ((apply Imp.trans); (focus ((apply imp_norm1 1134 [.sh, .sh, .sl 46 [.sh, .sh, .sh, .sh]] rTapi_Group); (focus (simp only [push_cast, seval]; rfl)); (focus ((repeat' (fail)); done)))))); (apply imp_stT; (repeat' (first | with_reducible exact keepT_nil | with_reducible exact keepC_nil | with_reducible apply keepT_cons | with_reducible apply keepC_cons | ((with_reducible apply svle_eq); (focus (first | (simp only [push_cast, seval]; rfl))); (focus ((repeat' (first | rfl)); done))) | ((with_reducible apply chle_eq); (focus (first | (simp only [push_cast, seval]; rfl))); (first | with_reducible exact chle_rfl rfl)))); done)))) | ((apply K_brk (s' := (_, _, _, _, _, _, _, _)) hm); (focus (first | (dsimp only; done))); (focus ((apply imp_stT; (repeat' (first | with_reducible exact keepT_nil | with_reducible exact keepC_nil | with_reducible apply keepT_cons | with_reducible apply keepC_cons | ((with_reducible apply svle_eq); (focus (first | (simp only [push_cast, seval]; rfl))); (focus ((repeat' (first | rfl)); done))) | ((with_reducible apply chle_eq); (focus (first | (simp only [push_cast, seval]; rfl))); (first | with_reducible exact chle_rfl rfl)))); done)))) | (((with_reducible apply K_brkR hm); intro r hm)) | (((with_reducible apply O_pO hm); (focus (simp only [push_cast, seval]; rfl)); (first | apply spec_slices_Clone_interchange_api_Message_interchange_api_Message _); (any_goals (focus ((repeat' (first | rfl)); done))); (any_goals (focus (intro _; rfl))); intro y hm)) | (((with_reducible apply LoopB.of); (focus (first | (dsimp only; done))); (focus ((intro _; repeat' (first | with_reducible exact impC_end | with_reducible refine impC_seq ?_ | with_reducible refine impC_block ?_ | ((with_reducible refine impC_rnd ?_); intro _) | ((with_reducible refine impC_brk ?_); intro _))))); (intro s o hm; first | unfold sc_wire_Merge_L1 | unfold sc_wire_Merge_L2 | unfold sc_wire_Merge_L3); rotate_left; intro s hm)) | (((apply imp_stT; (repeat' (first | with_reducible exact keepT_nil | with_reducible exact keepC_nil | with_reducible apply keepT_cons | with_reducible apply keepC_cons | ((with_reducible apply svle_eq); (focus (first | (simp only [push_cast, seval]; rfl) | rfl)); (focus ((repeat' (first | rfl)); done))) | ((with_reducible apply svle_td); (focus (first | rfl)); (focus (first | (simp only [push_cast, seval]; rfl))); (focus ((repeat' (first | (with_reducible first | apply dv_slice | apply fold_nil))); done))) | ((with_reducible apply chle_eq); (focus (first | (simp only [push_cast, seval]; rfl))); (first | with_reducible exact chle_rfl rfl | with_reducible apply chle_vec | with_reducible apply chle_box)) | (with_reducible first | apply cT_Tapi_Interchange | apply r_nilO))); done))))
noncomputable def m_wire_Merge (x0 : List Tapi_Interchange) : Option (Tapi_Interchange × Int) := (sims_GM_1_0 x0).1
theorem spec_wire_Merge (x0 : List Tapi_Interchange) : ∀ r, m_wire_Merge x0 = some r → PureSpec Tryz.prog 7 [.slice (List.map rTapi_Interchange x0)] (.tup [.agg (rTapi_Interchange r.1), .int .i64 r.2]) := (sims_GM_1_0 x0).2

end Go.Proofs.YthcfbglbjipdaaaGreatDoor

/-
  Bodies of functions and what they compute, printed by programs of mine (wip/tool/gen.py, sc.py) out of the translation; the kernel holds each against the translation.
-/
namespace Go.Proofs.YthcfbglbjipdaaaGreatDoor
open Go.RowKit
set_option linter.unusedSimpArgs false
set_option linter.unusedVariables false
def bT_Tapi_Message (p0 : List UInt8) (p1 : List UInt8) (p2 : List UInt8) (p3 : Nat) : List SV := [.d (.str p0)] ++ ([.d (.str p1)] ++ ([.d (.str p2)] ++ ([.vec p3])))
attribute [push_cast] bT_Tapi_Message
def sc_interchangeref2_message_L1 : SC :=
  (.seq (.seq (.reg [.r 7 (.mv (.t 4)),
     .r 8 (.fld 3 (.t 1)),
     .o 9 (.ld1 (.t 8)),
     .r 10 (.len (.t 9)),
     .r 11 (.bin .lss (.t 7) (.t 10))])
  (.cond (.t 11)
    .skip
    (.exit 0)))
  (.seq (.block 1 (.regE [.r 14 (.fld 3 (.t 3)),
       .r 15 (.ld1 (.t 14)),
       .r 16 (.fld 3 (.t 1)),
       .r 17 (.ld1 (.t 16)),
       .r 18 (.mv (.t 4)),
       .r 19 (.idx 2 (.t 17) (.t 18)),
       .r 20 (.ldA 2 (.t 19)),
       .c 21 (.f 33) [.t 20],
       .r 22 (.bslice 2 [.t 21]),
       .x 23 (.app 66 2 (.t 15) (.t 22)) [],
       .r 24 (.fld 3 (.t 3)),
       .x 0 (.st 1 (.t 24) (.t 23)) []]))
  (.reg [.r 12 (.mv (.t 4)),
     .r 13 (.bin .add (.t 12) (.c (.d (.int .i64 1)))),
     .r 4 (.mv (.t 13))])))
def sc_interchangeref2_message_B1 : SC := .block 0 (.loop sc_interchangeref2_message_L1)
/-- interchange/interchangeref2.message -/
def sc_interchangeref2_message : SC :=
  (.seq (.reg [.r 1 (.boxI (.t 0)),
     .w 2 (.boxM (.c (.agg [.d (.str []), .d (.str []), .d (.str []), .nils])))])
  (.seq (.reg [.o 5 (.ldA 4 (.t 1)),
     .w 3 (.boxM (.c (.agg [.d (.str []), .d (.str []), .d (.str []), .nils]))),
     .w 0 (.st 4 (.t 3) (.t 5))])
  (.seq (.reg [.r 6 (.fld 3 (.t 3)),
     .w 0 (.st 1 (.t 6) (.c (.nils)))])
  (.seq (.seq (.reg [.r 4 (.mv (.c (.d (.int .i64 0))))])
  sc_interchangeref2_message_B1)
  (.seq (.reg [.o 25 (.ldA 4 (.t 3)),
     .w 0 (.st 4 (.t 2) (.t 25))])
  .ret)))))
theorem fit_interchangeref2_message : fits Tryz.prog 17 Tryz.f17 sc_interchangeref2_message [.cell 2 4] 1 = true := by kernel_rfl

set_option maxRecDepth 100000 in
set_option maxHeartbeats 40000000 in
noncomputable def sims_G8_0_0 : (∀ (x0 : Tapi_Message), {m : Option (Tapi_Message) // ∀ r, m = some r → PureSpec Tryz.prog 17 [.agg (rTapi_Message x0)] (.agg (rTapi_Message r))}) := by
  (intro x0; apply Subtype.mk; intro r hm; apply pure_walk Tryz.func17 fit_interchangeref2_message; unfold sc_interchangeref2_message)
  repeat' (first | ((with_reducible apply W_nilB (id := 3) (cid := 1099) (off := 3) (n := 2) (e := 66)); (focus (simp only [push_cast, seval]; (try rfl); done)); (focus (simp only [push_cast, seval]; (try rfl); done)); (focus decide); (focus (simp only [push_cast, seval]; (try rfl); done))) | with_reducible refine W_seq ?_ | with_reducible refine W_reg ?_ | with_reducible refine W_regE ?_ | with_reducible refine W_block ?_ | with_reducible refine W_skip ?_ | with_reducible refine W_ret ?_ | with_reducible refine W_exit ?_ | with_reducible refine O_nil ?_ | with_reducible refine K_seq ?_ | with_reducible refine K_seqE ?_ | with_reducible refine K_block ?_ | with_reducible refine O_o2r ?_ | ((with_reducible apply O_idxr hm); (iterate 2 (simp only [push_cast, seval]; rfl)); (intro _; rfl); intro e hm) | ((with_reducible apply O_r); (simp only [push_cast, seval]; rfl); (first | exact trivial)) | ((with_reducible apply O_cF hm); (simp only [push_cast, seval]; rfl); (first | apply spec_interchangeref2_copied _); (any_goals ((repeat' (first | rfl)); done)); intro x hm) | ((with_reducible apply O_w); (simp only [push_cast, seval]; rfl); (first | exact trivial)) | ((with_reducible apply O_appVX hm); (iterate 2 (simp only [push_cast, seval]; rfl)); (focus ((repeat' (first | rfl)); done)); (simp only [push_cast, seval]; rfl); (focus ((repeat' (first | rfl | (with_reducible first | apply eR_nil | apply eR_cons))); done)); (intro _; rfl); (focus ((repeat' (first | exact Rer_nil)); done)); intro hm) | ((with_reducible apply O_x); (simp only [push_cast, seval]; rfl); (first | exact trivial); (focus ((repeat' (first | exact Rer_nil)); done))) | ((with_reducible apply S_condB hm); (simp only [push_cast, seval]; rfl); intro hm; rotate_left; intro hm) | ((with_reducible apply K_endS hm); (focus (simp only [resOf, resL, RV.get, push_cast, seval]; rfl)); (focus ((repeat' (first | rfl | (with_reducible first | apply fT_Tapi_Message | apply f_agg))); done))) | ((with_reducible apply K_leave hm); intro r hm) | ((apply S_loopY (b := 0) (X := sc_interchangeref2_message_B1) (x := sc_interchangeref2_message_L1) rfl (fun (c : SV × Ch) (s : (List UInt8) × (List UInt8) × (List UInt8) × (List Tapi_Segment) × Int) => st [(1, c.1), (2, .ref 2 0), (3, .ref 3 0), (4, .d (.int .i64 s.2.2.2.2))] [(1099, .vec 66 2 (vrow rTapi_Segment s.2.2.2.1)), (3, .box (bT_Tapi_Message s.1 s.2.1 s.2.2.1 1099)), (2, c.2)]) (c := (_, _)) (s0 := (_, _, _, _, _)) hm); (focus (first | (dsimp only; done))); (with_reducible refine Then.mk ?_ ?_)) | ((apply K_next (s' := (_, _, _, _, _)) hm); (focus (first | (dsimp only; done)))) | ((apply K_brk (s' := (_, _, _, _, _)) hm); (focus (first | (dsimp only; done)))) | (((with_reducible apply LoopB.of); (focus (first | (dsimp only; done))); (focus ((intro _; repeat' (first | with_reducible exact impC_end | with_reducible refine impC_seq ?_)))); (intro s o hm; first | unfold sc_interchangeref2_message_L1); rotate_left; intro s hm)) | (((apply imp_stT; (repeat' (first | with_reducible exact keepT_nil | with_reducible exact keepC_nil | with_reducible apply keepT_cons | with_reducible apply keepC_cons | ((with_reducible apply svle_eq); (focus (first | (simp only [push_cast, seval]; rfl))); (focus ((repeat' (first | rfl)); done))) | ((with_reducible apply chle_eq); (focus (first | (simp only [push_cast, seval]; rfl))); (first | with_reducible exact chle_rfl rfl | with_reducible apply chle_vec)) | (with_reducible first | apply r_nil))); done))))
noncomputable def m_interchangeref2_message (x0 : Tapi_Message) : Option (Tapi_Message) := (sims_G8_0_0 x0).1
theorem spec_interchangeref2_message (x0 : Tapi_Message) : ∀ r, m_interchangeref2_message x0 = some r → PureSpec Tryz.prog 17 [.agg (rTapi_Message x0)] (.agg (rTapi_Message r)) := (sims_G8_0_0 x0).2

end Go.Proofs.YthcfbglbjipdaaaGreatDoor

/-
  Bodies of functions and what they compute, printed by programs of mine (wip/tool/gen.py, sc.py) out of the translation; the kernel holds each against the translation.
-/
namespace Go.Proofs.YthcfbglbjipdaaaGreatDoor
open Go.RowKit
set_option linter.unusedSimpArgs false
set_option linter.unusedVariables false
def sc_interchangeref2_Merge_L1 : SC :=
  (.seq (.seq (.reg [.r 112 (.mv (.t 10)),
     .r 113 (.fld 6 (.t 6)),
     .o 114 (.ld1 (.t 113)),
     .r 115 (.mv (.t 8)),
     .r 116 (.idx 3 (.t 114) (.t 115)),
     .r 117 (.fld 2 (.t 116)),
     .o 118 (.ld1 (.t 117)),
     .r 119 (.len (.t 118)),
     .r 120 (.bin .lss (.t 112) (.t 119))])
  (.cond (.t 120)
    .skip
    (.exit 4)))
  (.seq (.block 5 (.regE [.r 123 (.fld 2 (.t 9)),
       .r 124 (.ld1 (.t 123)),
       .r 125 (.fld 6 (.t 6)),
       .r 126 (.ld1 (.t 125)),
       .r 127 (.mv (.t 8)),
       .r 128 (.idx 3 (.t 126) (.t 127)),
       .r 129 (.fld 2 (.t 128)),
       .r 130 (.ld1 (.t 129)),
       .r 131 (.mv (.t 10)),
       .r 132 (.idx 4 (.t 130) (.t 131)),
       .r 133 (.ldA 4 (.t 132)),
       .c 134 (.f 17) [.t 133],
       .r 135 (.bslice 4 [.t 134]),
       .x 136 (.app 46 4 (.t 124) (.t 135)) [],
       .r 137 (.fld 2 (.t 9)),
       .x 0 (.st 1 (.t 137) (.t 136)) []]))
  (.reg [.r 121 (.mv (.t 10)),
     .r 122 (.bin .add (.t 121) (.c (.d (.int .i64 1)))),
     .r 10 (.mv (.t 122))])))
def sc_interchangeref2_Merge_B1 : SC := .block 4 (.loop sc_interchangeref2_Merge_L1)
def sc_interchangeref2_Merge_R28 : SC :=
  (.regE [.r 175 (.fld 6 (.t 4)),
   .r 176 (.ld1 (.t 175)),
   .r 177 (.mv (.t 11)),
   .r 178 (.bin .sub (.t 177) (.c (.d (.int .i64 1)))),
   .r 179 (.fld 6 (.t 4)),
   .r 180 (.ld1 (.t 179)),
   .r 181 (.mv (.t 11)),
   .r 182 (.bin .sub (.t 181) (.c (.d (.int .i64 1)))),
   .r 183 (.idx 3 (.t 180) (.t 182)),
   .r 184 (.fld 2 (.t 183)),
   .r 185 (.ld1 (.t 184)),
   .r 186 (.fld 2 (.t 9)),
   .r 187 (.ld1 (.t 186)),
   .x 188 (.app 46 4 (.t 185) (.t 187)) [(0, 175, .fld 6 (.t 4)), (1, 176, .ld1 (.t 175)), (2, 177, .mv (.t 11)), (3, 178, .bin .sub (.t 177) (.c (.d (.int .i64 1))))],
   .r 189 (.idx 3 (.t 176) (.t 178)),
   .r 190 (.fld 2 (.t 189)),
   .x 0 (.st 1 (.t 190) (.t 188)) []])
def sc_interchangeref2_Merge_L2 : SC :=
  (.seq (.seq (.reg [.r 92 (.mv (.t 8)),
     .r 93 (.fld 6 (.t 6)),
     .o 94 (.ld1 (.t 93)),
     .r 95 (.len (.t 94)),
     .r 96 (.bin .lss (.t 92) (.t 95))])
  (.cond (.t 96)
    .skip
    (.exit 2)))
  (.seq (.block 3 (.seq (.regE [.r 99 (.fld 6 (.t 6)),
       .r 100 (.ld1 (.t 99)),
       .r 101 (.mv (.t 8)),
       .r 102 (.idx 3 (.t 100) (.t 101)),
       .r 103 (.fld 0 (.t 102)),
       .r 104 (.ld1 (.t 103)),
       .r 105 (.fld 6 (.t 6)),
       .r 106 (.ld1 (.t 105)),
       .r 107 (.mv (.t 8)),
       .r 108 (.idx 3 (.t 106) (.t 107)),
       .r 109 (.fld 1 (.t 108)),
       .r 110 (.ld1 (.t 109)),
       .r 111 (.build [.d (.str []), .d (.str []), .nils] [(0, 1, .t 104), (1, 1, .t 110)]),
       .x 9 (.boxM (.c (.agg [.d (.str []), .d (.str []), .nils]))) [(0, 99, .fld 6 (.t 6)), (1, 100, .ld1 (.t 99)), (2, 101, .mv (.t 8)), (3, 102, .idx 3 (.t 100) (.t 101)), (4, 103, .fld 0 (.t 102)), (5, 104, .ld1 (.t 103)), (6, 105, .fld 6 (.t 6)), (7, 106, .ld1 (.t 105)), (8, 107, .mv (.t 8)), (9, 108, .idx 3 (.t 106) (.t 107)), (10, 109, .fld 1 (.t 108)), (11, 110, .ld1 (.t 109)), (12, 111, .build [.d (.str []), .d (.str []), .nils] [(0, 1, .t 104), (1, 1, .t 110)])],
       .x 0 (.st 3 (.t 9) (.t 111)) []])
    (.seq (.seq (.reg [.r 10 (.mv (.c (.d (.int .i64 0))))])
    sc_interchangeref2_Merge_B1)
    (.seq (.reg [.r 138 (.fld 6 (.t 4)),
       .o 139 (.ld1 (.t 138)),
       .r 140 (.len (.t 139)),
       .r 11 (.mv (.t 140))])
    (.seq (.regD (.r 141 (.mv (.t 5)) :: .r 142 (.bin .gtr (.t 141) (.c (.d (.int .i64 0)))) :: .r 143 (.mv (.t 142)) :: gapp [144, 145] 143 true (.r 144 (.mv (.t 8)) :: .r 145 (.bin .eql (.t 144) (.c (.d (.int .i64 0)))) :: []) (.r 146 (.pick (.t 143) (.t 145) (.c (.d (.bool false)))) :: .r 147 (.mv (.t 146)) :: gapp [148, 149] 147 true (.r 148 (.mv (.t 11)) :: .r 149 (.bin .gtr (.t 148) (.c (.d (.int .i64 0)))) :: []) (.r 150 (.pick (.t 147) (.t 149) (.c (.d (.bool false)))) :: .r 151 (.mv (.t 150)) :: gapp [152, 153, 154, 155, 156, 157, 158, 159, 160, 161] 151 true (.r 152 (.fld 6 (.t 4)) :: .r 153 (.ld1 (.t 152)) :: .r 154 (.mv (.t 11)) :: .r 155 (.bin .sub (.t 154) (.c (.d (.int .i64 1)))) :: .r 156 (.idx 3 (.t 153) (.t 155)) :: .r 157 (.fld 0 (.t 156)) :: .r 158 (.ld1 (.t 157)) :: .r 159 (.fld 0 (.t 9)) :: .r 160 (.ld1 (.t 159)) :: .r 161 (.bin .eql (.t 158) (.t 160)) :: []) (.r 162 (.pick (.t 151) (.t 161) (.c (.d (.bool false)))) :: .r 163 (.mv (.t 162)) :: gapp [164, 165, 166, 167, 168, 169, 170, 171, 172, 173] 163 true (.r 164 (.fld 6 (.t 4)) :: .r 165 (.ld1 (.t 164)) :: .r 166 (.mv (.t 11)) :: .r 167 (.bin .sub (.t 166) (.c (.d (.int .i64 1)))) :: .r 168 (.idx 3 (.t 165) (.t 167)) :: .r 169 (.fld 1 (.t 168)) :: .r 170 (.ld1 (.t 169)) :: .r 171 (.fld 1 (.t 9)) :: .r 172 (.ld1 (.t 171)) :: .r 173 (.bin .eql (.t 170) (.t 172)) :: []) (.r 174 (.pick (.t 163) (.t 173) (.c (.d (.bool false)))) :: []))))))
    (.cond (.t 174)
      sc_interchangeref2_Merge_R28
      (.reg [.r 191 (.fld 6 (.t 4)),
         .o 192 (.ld1 (.t 191)),
         .o 193 (.ldA 3 (.t 9)),
         .r 194 (.bslice 3 [.t 193]),
         .w 195 (.app 41 3 (.t 192) (.t 194)),
         .r 196 (.fld 6 (.t 4)),
         .w 0 (.st 1 (.t 196) (.t 195))])))))))
  (.reg [.r 97 (.mv (.t 8)),
     .r 98 (.bin .add (.t 97) (.c (.d (.int .i64 1)))),
     .r 8 (.mv (.t 98))])))
def sc_interchangeref2_Merge_B2 : SC := .block 2 (.loop sc_interchangeref2_Merge_L2)
def sc_interchangeref2_Merge_L3 : SC :=
  (.seq (.seq (.reg [.r 25 (.mv (.t 5)),
     .r 26 (.mv (.t 0)),
     .r 27 (.len (.t 26)),
     .r 28 (.bin .lss (.t 25) (.t 27))])
  (.cond (.t 28)
    .skip
    (.exit 0)))
  (.seq (.block 1 (.seq (.reg [.r 31 (.mv (.t 0)),
       .r 32 (.mv (.t 5)),
       .r 33 (.idx 7 (.t 31) (.t 32)),
       .o 34 (.ldA 7 (.t 33)),
       .w 6 (.boxM (.c (.agg [.d (.str []), .d (.str []), .d (.str []), .d (.int .i64 0), .d (.int .i64 0), .d (.bool false), .nils]))),
       .w 0 (.st 7 (.t 6) (.t 34))])
    (.seq (.seq (.reg [.o 35 (.ldA 7 (.t 6)),
       .c 36 (.f 16) [.t 35],
       .r 7 (.mv (.t 36))])
    (.seq (.reg [.r 37 (.mv (.t 7)),
       .r 38 (.bin .neq (.t 37) (.c (.d (.int .i64 0))))])
    (.cond (.t 38)
      (.seq (.reg [.r 39 (.build [.d (.str []), .d (.str []), .d (.str []), .d (.int .i64 0), .d (.int .i64 0), .d (.bool false), .nils] []),
         .r 40 (.mv (.t 7)),
         .w 0 (.st 7 (.t 2) (.t 39)),
         .r 3 (.mv (.t 40))])
      .ret)
      .skip)))
    (.seq (.seq (.reg (.r 41 (.fld 1 (.t 6)) :: .o 42 (.ld1 (.t 41)) :: .r 43 (.fld 1 (.t 4)) :: .o 44 (.ld1 (.t 43)) :: .r 45 (.bin .neq (.t 42) (.t 44)) :: .r 46 (.mv (.t 45)) :: gapp [47, 48, 49, 50, 51] 46 false (.r 47 (.fld 2 (.t 6)) :: .r 48 (.ld1 (.t 47)) :: .r 49 (.fld 2 (.t 4)) :: .r 50 (.ld1 (.t 49)) :: .r 51 (.bin .neq (.t 48) (.t 50)) :: []) (.r 52 (.pick (.t 46) (.c (.d (.bool true))) (.t 51)) :: .r 53 (.mv (.t 52)) :: gapp [54, 55, 56, 57, 58] 53 false (.r 54 (.fld 3 (.t 6)) :: .r 55 (.ld1 (.t 54)) :: .r 56 (.fld 3 (.t 4)) :: .r 57 (.ld1 (.t 56)) :: .r 58 (.bin .neq (.t 55) (.t 57)) :: []) (.r 59 (.pick (.t 53) (.c (.d (.bool true))) (.t 58)) :: .r 60 (.mv (.t 59)) :: gapp [61, 62, 63, 64, 65] 60 false (.r 61 (.fld 4 (.t 6)) :: .r 62 (.ld1 (.t 61)) :: .r 63 (.fld 4 (.t 4)) :: .r 64 (.ld1 (.t 63)) :: .r 65 (.bin .neq (.t 62) (.t 64)) :: []) (.r 66 (.pick (.t 60) (.c (.d (.bool true))) (.t 65)) :: .r 67 (.mv (.t 66)) :: gapp [68, 69, 70, 71, 72] 67 false (.r 68 (.fld 5 (.t 6)) :: .r 69 (.ld1 (.t 68)) :: .r 70 (.fld 5 (.t 4)) :: .r 71 (.ld1 (.t 70)) :: .r 72 (.binB .neq (.t 69) (.t 71)) :: []) (.r 73 (.pick (.t 67) (.c (.d (.bool true))) (.t 72)) :: []))))))
    (.cond (.t 73)
      (.seq (.reg [.r 74 (.build [.d (.str []), .d (.str []), .d (.str []), .d (.int .i64 0), .d (.int .i64 0), .d (.bool false), .nils] []),
         .w 0 (.st 7 (.t 2) (.t 74)),
         .r 3 (.mv (.c (.d (.int .i64 12))))])
      .ret)
      .skip))
    (.seq (.seq (.regD (.r 75 (.mv (.t 5)) :: .r 76 (.bin .gtr (.t 75) (.c (.d (.int .i64 0)))) :: .r 77 (.mv (.t 76)) :: gapp [78, 79, 80, 81, 82, 83, 84, 85, 86, 87, 88, 89] 77 true (.r 78 (.fld 0 (.t 6)) :: .r 79 (.ld1 (.t 78)) :: .r 80 (.mv (.t 0)) :: .r 81 (.idx 7 (.t 80) (.c (.d (.int .i64 0)))) :: .r 82 (.fld 0 (.t 81)) :: .r 83 (.ld1 (.t 82)) :: .r 84 (.bin .add (.t 83) (.c (.d (.str [45])))) :: .r 85 (.mv (.t 5)) :: .r 86 (.bin .add (.t 85) (.c (.d (.int .i64 1)))) :: .c 87 (.f 18) [.t 86] :: .r 88 (.bin .add (.t 84) (.t 87)) :: .r 89 (.bin .neq (.t 79) (.t 88)) :: []) (.r 90 (.pick (.t 77) (.t 89) (.c (.d (.bool false)))) :: [])))
    (.cond (.t 90)
      (.seq (.reg [.r 91 (.build [.d (.str []), .d (.str []), .d (.str []), .d (.int .i64 0), .d (.int .i64 0), .d (.bool false), .nils] []),
         .w 0 (.st 7 (.t 2) (.t 91)),
         .r 3 (.mv (.c (.d (.int .i64 3))))])
      .ret)
      .skip))
    (.seq (.reg [.r 8 (.mv (.c (.d (.int .i64 0))))])
    sc_interchangeref2_Merge_B2))))))
  (.reg [.r 29 (.mv (.t 5)),
     .r 30 (.bin .add (.t 29) (.c (.d (.int .i64 1)))),
     .r 5 (.mv (.t 30))])))
def sc_interchangeref2_Merge_B3 : SC := .block 0 (.loop sc_interchangeref2_Merge_L3)
def sc_interchangeref2_Merge_R30 : SC := (.reg [.o 197 (.ldA 7 (.t 4)),
     .c 198 (.f 16) [.t 197],
     .r 12 (.mv (.t 198))])
/-- interchange/interchangeref2.Merge -/
def sc_interchangeref2_Merge : SC :=
  (.seq (.reg [.w 2 (.boxM (.c (.agg [.d (.str []), .d (.str []), .d (.str []), .d (.int .i64 0), .d (.int .i64 0), .d (.bool false), .nils]))),
     .r 3 (.mv (.c (.d (.int .i64 0))))])
  (.seq (.seq (.reg [.r 13 (.mv (.t 0)),
     .r 14 (.len (.t 13)),
     .r 15 (.bin .eql (.t 14) (.c (.d (.int .i64 0))))])
  (.cond (.t 15)
    (.seq (.reg [.r 16 (.build [.d (.str []), .d (.str []), .d (.str []), .d (.int .i64 0), .d (.int .i64 0), .d (.bool false), .nils] []),
       .w 0 (.st 7 (.t 2) (.t 16)),
       .r 3 (.mv (.c (.d (.int .i64 9))))])
    .ret)
    .skip))
  (.seq (.seq (.reg [.r 17 (.mv (.t 0)),
     .r 18 (.len (.t 17)),
     .r 19 (.bin .gtr (.t 18) (.c (.d (.int .i64 200))))])
  (.cond (.t 19)
    (.seq (.reg [.r 20 (.build [.d (.str []), .d (.str []), .d (.str []), .d (.int .i64 0), .d (.int .i64 0), .d (.bool false), .nils] []),
       .w 0 (.st 7 (.t 2) (.t 20)),
       .r 3 (.mv (.c (.d (.int .i64 2))))])
    .ret)
    .skip))
  (.seq (.reg [.r 21 (.mv (.t 0)),
     .r 22 (.idx 7 (.t 21) (.c (.d (.int .i64 0)))),
     .o 23 (.ldA 7 (.t 22)),
     .w 4 (.boxM (.c (.agg [.d (.str []), .d (.str []), .d (.str []), .d (.int .i64 0), .d (.int .i64 0), .d (.bool false), .nils]))),
     .w 0 (.st 7 (.t 4) (.t 23))])
  (.seq (.reg [.r 24 (.fld 6 (.t 4)),
     .w 0 (.st 1 (.t 24) (.c (.nils)))])
  (.seq (.seq (.reg [.r 5 (.mv (.c (.d (.int .i64 0))))])
  sc_interchangeref2_Merge_B3)
  (.seq (.seq sc_interchangeref2_Merge_R30
  (.seq (.reg [.r 199 (.mv (.t 12)),
     .r 200 (.bin .neq (.t 199) (.c (.d (.int .i64 0))))])
  (.cond (.t 200)
    (.seq (.reg [.r 201 (.build [.d (.str []), .d (.str []), .d (.str []), .d (.int .i64 0), .d (.int .i64 0), .d (.bool false), .nils] []),
       .r 202 (.mv (.t 12)),
       .w 0 (.st 7 (.t 2) (.t 201)),
       .r 3 (.mv (.t 202))])
    .ret)
    .skip)))
  (.seq (.reg [.o 203 (.ldA 7 (.t 4)),
     .w 0 (.st 7 (.t 2) (.t 203)),
     .r 3 (.mv (.c (.d (.int .i64 0))))])
  .ret))))))))
theorem fit_interchangeref2_Merge : fits Tryz.prog 8 Tryz.f8 sc_interchangeref2_Merge [.cell 2 7, .t 3] 1 = true := by kernel_rfl

set_option maxRecDepth 100000 in
set_option maxHeartbeats 40000000 in
noncomputable def sims_GO_0_0 : (∀ (x0 : List Tapi_Interchange), {m : Option (Tapi_Interchange × Int) // ∀ r, m = some r → PureSpec Tryz.prog 8 [.slice (List.map rTapi_Interchange x0)] (.tup [.agg (rTapi_Interchange r.1), .int .i64 r.2])}) := by
  (intro x0; apply Subtype.mk; intro r hm; apply pure_walk Tryz.func8 fit_interchangeref2_Merge; unfold sc_interchangeref2_Merge)
  repeat' (first | ((with_reducible apply W_nilB (id := 4) (cid := 1134) (off := 6) (n := 3) (e := 41)); (focus (simp only [push_cast, seval]; (try rfl); done)); (focus (simp only [push_cast, seval]; (try rfl); done)); (focus decide); (focus (simp only [push_cast, seval]; (try rfl); done))) | ((with_reducible apply W_nilB (id := 9) (cid := 1290) (off := 2) (n := 4) (e := 46)); (focus (simp only [push_cast, seval]; (try rfl); done)); (focus (simp only [push_cast, seval]; (try rfl); done)); (focus decide); (focus (simp only [push_cast, seval]; (try rfl); done))) | ((apply W_frz (x := sc_interchangeref2_Merge_R28) (id := 1290)); (focus (simp only [push_cast, seval]; (try rfl); done)); (focus (simp only [push_cast, seval]; (try rfl); done))) | ((apply W_frz (x := sc_interchangeref2_Merge_R30) (id := 1134)); (focus (simp only [push_cast, seval]; (try rfl); done)); (focus (simp only [push_cast, seval]; (try rfl); done)); unfold sc_interchangeref2_Merge_R30) | ((with_reducible apply W_closeA (id := 1134) (cid := 1290) (off := 2) (ms' := [.sh, .sh, .sh, .sh]) (row' := rTapi_Message)); (focus (simp only [push_cast, seval]; rfl)); (focus (simp only [push_cast, seval]; rfl)); (focus rfl); (focus ((repeat' (first | ((with_reducible apply r_shG); (focus rfl); (focus (intro _; rfl))))); done)); (focus rfl); (focus (intro _; rfl)); (focus decide)) | ((with_reducible apply W_normO 1134 [.sh, .sh, .sl 46 [.sh, .sh, .sh, .sh]] rTapi_Group); (focus (simp only [push_cast, seval]; rfl)); (focus ((repeat' (first | (with_reducible first | apply r_rflO | apply r_oneO | apply r_appO | apply oT_Tapi_Group) | ((with_reducible apply svle_rfl); (focus ((repeat' (first | rfl)); done))) | ((with_reducible apply cle_own); (focus rfl); (focus ((repeat' (first | rfl)); done))))); done))) | with_reducible refine W_seq ?_ | with_reducible refine W_reg ?_ | with_reducible refine W_regD ?_ | with_reducible refine W_regE ?_ | with_reducible refine W_block ?_ | with_reducible refine W_skip ?_ | with_reducible refine W_ret ?_ | with_reducible refine W_exit ?_ | with_reducible refine O_nil ?_ | with_reducible refine K_seq ?_ | with_reducible refine K_seqE ?_ | with_reducible refine K_seqR ?_ | with_reducible refine K_block ?_ | with_reducible refine K_blockR ?_ | with_reducible refine O_o2r ?_ | ((with_reducible apply O_idxrE hm); (iterate 2 (simp only [push_cast, seval]; rfl)); (intro _; rfl); intro e he hm) | ((with_reducible apply O_idxVO hm); (iterate 2 (simp only [push_cast, seval]; rfl)); (focus (first | (simp only [push_cast, seval]; rfl))); (simp only [push_cast, seval]; rfl); intro e he hm) | ((with_reducible apply O_ldF); (iterate 2 (simp only [push_cast, seval]; rfl)); (focus (first | (simp only [push_cast, seval]; exact getI_lt (by assumption)))); (iterate 2 rfl)) | ((with_reducible apply O_ldGi); (iterate 2 (simp only [push_cast, seval]; rfl)); (focus exact getI_get (by assumption)); (iterate 2 rfl)) | ((with_reducible apply O_r); (simp only [push_cast, seval]; rfl); (first | exact trivial)) | ((with_reducible apply O_strr hm); (iterate 2 (simp only [push_cast, seval]; rfl)); intro hm) | ((with_reducible apply O_and hm); (simp only [push_cast, seval]; rfl); rfl; intro v hm; rotate_left; intro v g hm) | ((with_reducible apply O_or hm); (simp only [push_cast, seval]; rfl); rfl; intro v hm; rotate_left; intro v g hm) | ((with_reducible apply O_cF hm); (simp only [push_cast, seval]; rfl); (first | apply spec_interchangeref2_CheckInterchange _ | apply spec_strconv_Itoa _ | apply spec_interchangeref2_message _); (any_goals ((repeat' (first | rfl | (with_reducible first | apply fT_Tapi_Interchange | apply f_agg | apply f_cons))); done)); intro x hm) | ((with_reducible apply O_w); (simp only [push_cast, seval]; rfl); (first | exact trivial)) | ((with_reducible apply O_appVO hm); (iterate 3 (simp only [push_cast, seval]; rfl)); rfl; (focus (first | exact all_len rfl)); intro hm) | ((with_reducible apply O_stFx); (simp only [push_cast, seval]; rfl); (focus (first | (simp only [push_cast, seval]; rfl))); (simp only [push_cast, seval]; rfl); (focus (first | (simp only [push_cast, seval]; exact getI_lt (by assumption)))); (focus (first | (simp only [push_cast, seval]; done))); rfl; (focus ((repeat' (first | exact Rer_nil)); done))) | ((with_reducible apply O_appVX hm); (iterate 2 (simp only [push_cast, seval]; rfl)); (focus ((repeat' (first | rfl)); done)); (simp only [push_cast, seval]; rfl); (focus ((repeat' (first | rfl | (with_reducible first | apply eR_nil | apply eR_cons))); done)); (intro _; rfl); (focus ((repeat' (first | exact Rer_nil | ((with_reducible apply Rer_cons); (focus (simp only [push_cast, seval]; rfl)); (focus (first | exact trivial)); (focus (simp only [push_cast, seval]))))); done)); intro hm) | ((with_reducible apply O_x); (simp only [push_cast, seval]; rfl); (first | exact trivial); (focus ((repeat' (first | exact Rer_nil | ((with_reducible apply Rer_idx); (focus (simp only [push_cast, seval]; rfl)); (focus (simp only [push_cast, seval]; rfl)); rotate_left 2; (focus (first | (simp only [push_cast, seval]; rfl))); rotate_left; (focus assumption); (focus (intro _; rfl))) | ((with_reducible apply Rer_cons); (focus (simp only [push_cast, seval]; rfl)); (focus (first | exact trivial)); (focus (simp only [push_cast, seval]))))); done))) | ((with_reducible apply S_condB hm); (simp only [push_cast, seval]; rfl); intro hm; rotate_left; intro hm) | ((with_reducible apply K_end2 hm); (focus (simp only [resOf, resL, RV.get, push_cast, seval]; rfl)); (focus (first | (dsimp only; done))); (focus ((repeat' (first | rfl | (with_reducible first | apply fT_Tapi_Interchange | apply f_tup | apply f_agg | apply dv_slice | apply f_cons | apply fold_nil))); done))) | ((with_reducible apply K_bool hm); (simp only [push_cast, seval]; rfl)) | ((with_reducible apply K_leave hm); intro r hm) | ((with_reducible apply K_leaveR hm); intro r hm) | ((apply S_loopY (b := 4) (X := sc_interchangeref2_Merge_B1) (x := sc_interchangeref2_Merge_L1) rfl (fun (c : SV × Ch × SV × Ch × SV) (s : (List UInt8) × (List UInt8) × (List UInt8) × Int × Int × Bool × (List Tapi_Group) × (List UInt8) × (List UInt8) × (List Tapi_Message) × Int) => st [(0, c.1), (2, .ref 2 0), (4, .ref 4 0), (5, c.2.2.1), (6, .ref 6 0), (8, c.2.2.2.2), (9, .ref 9 0), (10, .d (.int .i64 s.2.2.2.2.2.2.2.2.2.2))] [(1134, .vec 41 3 (vrowO [.sh, .sh, .sl 46 [.sh, .sh, .sh, .sh]] rTapi_Group s.2.2.2.2.2.2.1)), (4, .box (bT_Tapi_Interchange s.1 s.2.1 s.2.2.1 s.2.2.2.1 s.2.2.2.2.1 s.2.2.2.2.2.1 1134)), (1290, .vec 46 4 (vrow rTapi_Message s.2.2.2.2.2.2.2.2.2.1)), (9, .box (bT_Tapi_Group s.2.2.2.2.2.2.2.1 s.2.2.2.2.2.2.2.2.1 1290)), (2, c.2.1), (6, c.2.2.2.1)]) (c := (_, _, _, _, _)) (s0 := (_, _, _, _, _, _, _, _, _, _, _)) hm); (focus (first | (dsimp only; done))); (with_reducible refine Then.mk ?_ ?_)) | ((apply S_loopY (b := 2) (X := sc_interchangeref2_Merge_B2) (x := sc_interchangeref2_Merge_L2) rfl (fun (c : SV × Ch × SV × Ch) (s : (List UInt8) × (List UInt8) × (List UInt8) × Int × Int × Bool × (List Tapi_Group) × Int) => st [(0, c.1), (2, .ref 2 0), (4, .ref 4 0), (5, c.2.2.1), (6, .ref 6 0), (8, .d (.int .i64 s.2.2.2.2.2.2.2))] [(1134, .vec 41 3 (vrowO [.sh, .sh, .sl 46 [.sh, .sh, .sh, .sh]] rTapi_Group s.2.2.2.2.2.2.1)), (4, .box (bT_Tapi_Interchange s.1 s.2.1 s.2.2.1 s.2.2.2.1 s.2.2.2.2.1 s.2.2.2.2.2.1 1134)), (2, c.2.1), (6, c.2.2.2)]) (c := (_, _, _, _)) (s0 := (_, _, _, _, _, _, _, _)) hm); (focus (first | (dsimp only; done))); (with_reducible refine Then.mk ?_ ?_)) | ((apply S_loopY (b := 0) (X := sc_interchangeref2_Merge_B3) (x := sc_interchangeref2_Merge_L3) rfl (fun (c : SV) (s : (List UInt8) × (List UInt8) × (List UInt8) × Int × Int × Bool × (List Tapi_Group) × Tapi_Interchange × Int) => st [(0, c), (2, .ref 2 0), (4, .ref 4 0), (5, .d (.int .i64 s.2.2.2.2.2.2.2.2))] [(1134, .vec 41 3 (vrowO [.sh, .sh, .sl 46 [.sh, .sh, .sh, .sh]] rTapi_Group s.2.2.2.2.2.2.1)), (4, .box (bT_Tapi_Interchange s.1 s.2.1 s.2.2.1 s.2.2.2.1 s.2.2.2.2.1 s.2.2.2.2.2.1 1134)), (2, .box (dR (rTapi_Interchange s.2.2.2.2.2.2.2.1)))]) (c := _) (s0 := (_, _, _, _, _, _, _, _, _)) hm); (focus (first | (dsimp only; done))); (with_reducible refine Then.mk ?_ ?_)) | (((apply W_openVd (x0 := sc_interchangeref2_Merge_R28) 40010 11 (id := 1134) (off := 2) (n' := 4) (row := rTapi_Group) (ms := [.sh, .sh, .sl 46 [.sh, .sh, .sh, .sh]]) (row' := rTapi_Message) (fld := fun x : Tapi_Group => x.fMessages) (cells := fun x => [.d (.str x.fRef), .d (.str x.fKind), .vec 40010]) hm); (focus (simp only [push_cast, seval]; rfl)); (focus (simp only [push_cast, seval]; rfl)); (focus rfl); (focus rfl); (focus (intro _; rfl)); (focus (intro _; rfl)); (focus decide); (focus (intro _; rfl)); (intro x he hm; unfold sc_interchangeref2_Merge_R28))) | ((apply K_next (s' := (_, _, _, _, _, _, _, _, _, _, _)) hm); (focus (first | (dsimp only; done))); (focus ((try ((apply Imp.trans); (focus ((apply imp_closeX (id := 1134) (cid := 40010) (off := 2) (n' := 4) (row := rTapi_Group) (ms := [.sh, .sh, .sl 46 [.sh, .sh, .sh, .sh]]) (row' := rTapi_Message) (x' := Tapi_Group.mk _ _ _)); (focus (simp only [push_cast, seval]; rfl)); rotate_left; (focus rfl); (focus (simp only [push_cast, seval]; rfl)); (focus ((repeat' (fail)); done)); (focus rfl); (focus (intro _; rfl)); (focus exact Nat.lt_of_sub_pos (Nat.zero_lt_succ _)); (focus (simp only [push_cast, seval]; rfl)); (focus decide); (focus exact getI_get (by assumption)))))); (try ((apply Imp.trans); (focus ((apply imp_normO 1134 [.sh, .sh, .sl 46 [.sh, .sh, .sh, .sh]] rTapi_Group); (focus (simp only [push_cast, seval]; rfl)); (focus ((repeat' (fail)); done)))))); (try ((apply Imp.trans); (focus ((apply imp_norm1 1134 [.sh, .sh, .sl 46 [.sh, .sh, .sh, .sh]] rTapi_Group); (focus (simp only [push_cast, seval]; rfl)); (focus ((repeat' (fail)); done)))))); (apply imp_stT; (repeat' (first | with_reducible exact keepT_nil | with_reducible exact keepC_nil | with_reducible apply keepT_cons | with_reducible apply keepC_cons | ((with_reducible apply svle_eq); (focus (first | (simp only [push_cast, seval]; rfl))); (focus ((repeat' (first | rfl)); done))) | ((with_reducible apply chle_eq); (focus (first | (simp only [push_cast, seval]; rfl))); (first | with_reducible exact chle_rfl rfl)))); done)))) | ((apply K_brk (s' := (_, _, _, _, _, _, _, _, _, _, _)) hm); (focus (first | (dsimp only; done))); (focus ((apply imp_stT; (repeat' (first | with_reducible exact keepT_nil | with_reducible exact keepC_nil | with_reducible apply keepT_cons | with_reducible apply keepC_cons | ((with_reducible apply svle_eq); (focus (first | (simp only [push_cast, seval]; rfl))); (focus ((repeat' (first | rfl)); done))) | ((with_reducible apply chle_eq); (focus (first | (simp only [push_cast, seval]; rfl))); (first | with_reducible exact chle_rfl rfl)))); done)))) | ((apply K_next (s' := (_, _, _, _, _, _, _, _, _)) hm); (focus (first | (dsimp only; done))); (focus ((try ((apply Imp.trans); (focus ((apply imp_closeX (id := 1134) (cid := 40010) (off := 2) (n' := 4) (row := rTapi_Group) (ms := [.sh, .sh, .sl 46 [.sh, .sh, .sh, .sh]]) (row' := rTapi_Message) (x' := Tapi_Group.mk _ _ _)); (focus (simp only [push_cast, seval]; rfl)); rotate_left; (focus rfl); (focus (simp only [push_cast, seval]; rfl)); (focus ((repeat' (fail)); done)); (focus rfl); (focus (intro _; rfl)); (focus exact Nat.lt_of_sub_pos (Nat.zero_lt_succ _)); (focus (simp only [push_cast, seval]; rfl)); (focus decide); (focus exact getI_get (by assumption)))))); (try ((apply Imp.trans); (focus ((apply imp_normO 1134 [.sh, .sh, .sl 46 [.sh, .sh, .sh, .sh]] rTapi_Group); (focus (simp only [push_cast, seval]; rfl)); (focus ((repeat' (fail)); done)))))); (try ((apply Imp.trans); (focus ((apply imp_norm1 1134 [.sh, .sh, .sl 46 [.sh, .sh, .sh, .sh]] rTapi_Group); (focus (simp only [push_cast, seval]; rfl)); (focus ((repeat' (fail)); done)))))); (apply imp_stT; (repeat' (first | with_reducible exact keepT_nil | with_reducible exact keepC_nil | with_reducible apply keepT_cons | with_reducible apply keepC_cons | ((with_reducible apply svle_eq); (focus (first | (simp only [push_cast, seval]; rfl))); (focus ((repeat' (first | rfl)); done))) | ((with_reducible apply chle_eq); (focus (first | (simp only [push_cast, seval]; rfl))); (first | with_reducible exact chle_rfl rfl)))); done)))) | ((apply K_brk (s' := (_, _, _, _, _, _, _, _, _)) hm); (focus (first | (dsimp only; done))); (focus ((apply imp_stT; (repeat' (first | with_reducible exact keepT_nil | with_reducible exact keepC_nil | with_reducible apply keepT_cons | with_reducible apply keepC_cons | ((with_reducible apply svle_eq); (focus (first | (simp only [push_cast, seval]; rfl))); (focus ((repeat' (first | rfl)); done))) | ((with_reducible apply chle_eq); (focus (first | (simp only [push_cast, seval]; rfl))); (first | with_reducible exact chle_rfl rfl)))); done)))) | ((apply K_next (s' := (_, _, _, _, _, _, _, _)) hm); (focus (first | (dsimp only; done))); (focus ((try ((apply Imp.trans); (focus ((apply imp_closeX (id := 1134) (cid := 40010) (off := 2) (n' := 4) (row := rTapi_Group) (ms := [.sh, .sh, .sl 46 [.sh, .sh, .sh, .sh]]) (row' := rTapi_Message) (x' := Tapi_Group.mk _ _ _)); (focus (simp only [push_cast, seval]; rfl)); rotate_left; (focus rfl); (focus (simp only [push_cast, seval]; rfl)); (focus ((repeat' (first | (with_reducible first | apply r_rfl))); done)); (focus rfl); (focus (intro _; rfl)); (focus exact Nat.lt_of_sub_pos (Nat.zero_lt_succ _)); (focus (simp only [push_cast, seval]; rfl)); (focus decide); (focus exact getI_get (by assumption)))))); (try ((apply Imp.trans); (focus ((apply imp_normO 1134 [.sh, .sh, .sl 46 [.sh, .sh, .sh, .sh]] rTapi_Group); (focus (simp only [push_cast, seval]; rfl)); (focus ((repeat' (fail)); done)))))); (try ((apply Imp.trans); (focus ((apply imp_norm1 1134 [.sh, .sh, .sl 46 [.sh, .sh, .sh, .sh]] rTapi_Group); (focus (simp only [push_cast, seval]; rfl)); (focus ((repeat' (fail)); done)))))); (apply imp_stT; (repeat' (first | with_reducible exact keepT_nil | with_reducible exact keepC_nil | with_reducible apply keepT_cons | with_reducible apply keepC_cons | ((with_reducible apply svle_eq); (focus (first | (simp only [push_cast, seval]; rfl))); (focus ((repeat' (first | rfl)); done))) | ((with_reducible apply chle_eq); (focus (first | (simp only [push_cast, seval]; rfl))); (first | with_reducible exact chle_rfl rfl)))); done)))) | ((apply K_brk (s' := (_, _, _, _, _, _, _, _)) hm); (focus (first | (dsimp only; done))); (focus ((apply imp_stT; (repeat' (first | with_reducible exact keepT_nil | with_reducible exact keepC_nil | with_reducible apply keepT_cons | with_reducible apply keepC_cons | ((with_reducible apply svle_eq); (focus (first | (simp only [push_cast, seval]; rfl))); (focus ((repeat' (first | rfl)); done))) | ((with_reducible apply chle_eq); (focus (first | (simp only [push_cast, seval]; rfl))); (first | with_reducible exact chle_rfl rfl)))); done)))) | (((with_reducible apply K_brkR hm); intro r hm)) | (((with_reducible apply LoopB.of); (focus (first | (dsimp only; done))); (focus ((intro _; repeat' (first | with_reducible exact impC_end | with_reducible refine impC_seq ?_ | with_reducible refine impC_block ?_ | ((with_reducible refine impC_rnd ?_); intro _) | ((with_reducible refine impC_brk ?_); intro _))))); (intro s o hm; first | unfold sc_interchangeref2_Merge_L1 | unfold sc_interchangeref2_Merge_L2 | unfold sc_interchangeref2_Merge_L3); rotate_left; intro s hm)) | (((apply imp_stT; (repeat' (first | with_reducible exact keepT_nil | with_reducible exact keepC_nil | with_reducible apply keepT_cons | with_reducible apply keepC_cons | ((with_reducible apply svle_eq); (focus (first | (simp only [push_cast, seval]; rfl) | rfl)); (focus ((repeat' (first | rfl)); done))) | ((with_reducible apply svle_td); (focus (first | rfl)); (focus (first | (simp only [push_cast, seval]; rfl))); (focus ((repeat' (first | (with_reducible first | apply dv_slice | apply fold_nil))); done))) | ((with_reducible apply chle_eq); (focus (first | (simp only [push_cast, seval]; rfl))); (first | with_reducible exact chle_rfl rfl | with_reducible apply chle_vec | with_reducible apply chle_box)) | (with_reducible first | apply cT_Tapi_Interchange | apply r_nilO | apply r_nil))); done))))
noncomputable def m_interchangeref2_Merge (x0 : List Tapi_Interchange) : Option (Tapi_Interchange × Int) := (sims_GO_0_0 x0).1
theorem spec_interchangeref2_Merge (x0 : List Tapi_Interchange) : ∀ r, m_interchangeref2_Merge x0 = some r → PureSpec Tryz.prog 8 [.slice (List.map rTapi_Interchange x0)] (.tup [.agg (rTapi_Interchange r.1), .int .i64 r.2]) := (sims_GO_0_0 x0).2

end Go.Proofs.YthcfbglbjipdaaaGreatDoor

/-
  Bodies of functions and what they compute, printed by programs of mine (wip/tool/gen.py, sc.py) out of the translation; the kernel holds each against the translation.
-/
namespace Go.Proofs.YthcfbglbjipdaaaGreatDoor
open Go.RowKit
set_option linter.unusedSimpArgs false
set_option linter.unusedVariables false
def sc_interchangeref2_Split_R21 : SC := (.reg [.r 61 (.fld 6 (.t 9)),
           .o 62 (.ld1 (.t 61)),
           .o 63 (.ldA 3 (.t 13)),
           .r 64 (.bslice 3 [.t 63]),
           .w 65 (.app 41 3 (.t 62) (.t 64)),
           .r 66 (.fld 6 (.t 9)),
           .w 0 (.st 1 (.t 66) (.t 65))])
def sc_interchangeref2_Split_R22 : SC := (.reg [.r 67 (.mv (.t 7)),
         .o 68 (.ldA 7 (.t 9)),
         .r 69 (.bslice 7 [.t 68]),
         .w 70 (.app 24 7 (.t 67) (.t 69)),
         .r 7 (.mv (.t 70))])
def sc_interchangeref2_Split_L1 : SC :=
  (.seq (.seq (.reg [.r 47 (.mv (.t 14)),
     .r 48 (.fld 2 (.t 12)),
     .o 49 (.ld1 (.t 48)),
     .r 50 (.len (.t 49)),
     .r 51 (.bin .lss (.t 47) (.t 50))])
  (.cond (.t 51)
    .skip
    (.exit 2)))
  (.seq (.block 3 (.seq (.seq (.reg [.r 54 (.mv (.t 10)),
       .r 55 (.mv (.t 1)),
       .r 56 (.bin .eql (.t 54) (.t 55))])
    (.cond (.t 56)
      (.seq (.seq (.reg [.r 57 (.fld 2 (.t 13)),
         .o 58 (.ld1 (.t 57)),
         .r 59 (.len (.t 58)),
         .r 60 (.bin .gtr (.t 59) (.c (.d (.int .i64 0))))])
      (.cond (.t 60)
        sc_interchangeref2_Split_R21
        .skip))
      (.seq sc_interchangeref2_Split_R22
      (.seq (.reg [.o 71 (.ldA 7 (.t 8)),
         .w 0 (.st 7 (.t 9) (.t 71)),
         .r 10 (.mv (.c (.d (.int .i64 0))))])
      (.reg [.r 72 (.fld 0 (.t 12)),
         .o 73 (.ld1 (.t 72)),
         .r 74 (.fld 1 (.t 12)),
         .o 75 (.ld1 (.t 74)),
         .r 76 (.build [.d (.str []), .d (.str []), .nils] [(0, 1, .t 73), (1, 1, .t 75)]),
         .w 0 (.st 3 (.t 13) (.t 76))]))))
      .skip))
    (.seq (.regE [.r 77 (.fld 2 (.t 13)),
       .r 78 (.ld1 (.t 77)),
       .r 79 (.fld 2 (.t 12)),
       .r 80 (.ld1 (.t 79)),
       .r 81 (.mv (.t 14)),
       .r 82 (.idx 4 (.t 80) (.t 81)),
       .r 83 (.ldA 4 (.t 82)),
       .c 84 (.f 17) [.t 83],
       .r 85 (.bslice 4 [.t 84]),
       .x 86 (.app 46 4 (.t 78) (.t 85)) [],
       .r 87 (.fld 2 (.t 13)),
       .x 0 (.st 1 (.t 87) (.t 86)) []])
    (.reg [.r 88 (.mv (.t 10)),
       .r 89 (.bin .add (.t 88) (.c (.d (.int .i64 1)))),
       .r 10 (.mv (.t 89))]))))
  (.reg [.r 52 (.mv (.t 14)),
     .r 53 (.bin .add (.t 52) (.c (.d (.int .i64 1)))),
     .r 14 (.mv (.t 53))])))
def sc_interchangeref2_Split_B1 : SC := .block 2 (.loop sc_interchangeref2_Split_L1)
def sc_interchangeref2_Split_R27 : SC := (.reg [.r 90 (.fld 6 (.t 9)),
       .o 91 (.ld1 (.t 90)),
       .o 92 (.ldA 3 (.t 13)),
       .r 93 (.bslice 3 [.t 92]),
       .w 94 (.app 41 3 (.t 91) (.t 93)),
       .r 95 (.fld 6 (.t 9)),
       .w 0 (.st 1 (.t 95) (.t 94))])
def sc_interchangeref2_Split_L2 : SC :=
  (.seq (.seq (.reg [.r 30 (.mv (.t 11)),
     .r 31 (.fld 6 (.t 2)),
     .o 32 (.ld1 (.t 31)),
     .r 33 (.len (.t 32)),
     .r 34 (.bin .lss (.t 30) (.t 33))])
  (.cond (.t 34)
    .skip
    (.exit 0)))
  (.seq (.block 1 (.seq (.reg [.r 37 (.fld 6 (.t 2)),
       .o 38 (.ld1 (.t 37)),
       .r 39 (.mv (.t 11)),
       .r 40 (.idx 3 (.t 38) (.t 39)),
       .o 41 (.ldA 3 (.t 40)),
       .w 12 (.boxM (.c (.agg [.d (.str []), .d (.str []), .nils]))),
       .w 0 (.st 3 (.t 12) (.t 41))])
    (.seq (.reg [.r 42 (.fld 0 (.t 12)),
       .o 43 (.ld1 (.t 42)),
       .r 44 (.fld 1 (.t 12)),
       .o 45 (.ld1 (.t 44)),
       .r 46 (.build [.d (.str []), .d (.str []), .nils] [(0, 1, .t 43), (1, 1, .t 45)]),
       .w 13 (.boxM (.c (.agg [.d (.str []), .d (.str []), .nils]))),
       .w 0 (.st 3 (.t 13) (.t 46))])
    (.seq (.seq (.reg [.r 14 (.mv (.c (.d (.int .i64 0))))])
    sc_interchangeref2_Split_B1)
    sc_interchangeref2_Split_R27))))
  (.reg [.r 35 (.mv (.t 11)),
     .r 36 (.bin .add (.t 35) (.c (.d (.int .i64 1)))),
     .r 11 (.mv (.t 36))])))
def sc_interchangeref2_Split_B2 : SC := .block 0 (.loop sc_interchangeref2_Split_L2)
def sc_interchangeref2_Split_R28 : SC := (.reg [.r 96 (.mv (.t 7)),
     .o 97 (.ldA 7 (.t 9)),
     .r 98 (.bslice 7 [.t 97]),
     .w 99 (.app 24 7 (.t 96) (.t 98)),
     .r 7 (.mv (.t 99))])
def sc_interchangeref2_Split_L3 : SC :=
  (.seq (.seq (.reg [.r 100 (.mv (.t 15)),
     .r 101 (.mv (.t 7)),
     .r 102 (.len (.t 101)),
     .r 103 (.bin .lss (.t 100) (.t 102))])
  (.cond (.t 103)
    .skip
    (.exit 4)))
  (.seq (.block 5 (.seq (.regE [.r 106 (.mv (.t 7)),
       .r 107 (.mv (.t 15)),
       .r 108 (.fld 0 (.t 2)),
       .r 109 (.ld1 (.t 108)),
       .r 110 (.bin .add (.t 109) (.c (.d (.str [45])))),
       .r 111 (.mv (.t 15)),
       .r 112 (.bin .add (.t 111) (.c (.d (.int .i64 1)))),
       .c 113 (.f 18) [.t 112],
       .r 114 (.bin .add (.t 110) (.t 113)),
       .r 115 (.idx 7 (.t 106) (.t 107)),
       .r 116 (.fld 0 (.t 115)),
       .x 0 (.st 1 (.t 116) (.t 114)) []])
    (.seq (.reg [.r 117 (.mv (.t 7)),
       .r 118 (.mv (.t 15)),
       .r 119 (.idx 7 (.t 117) (.t 118)),
       .r 120 (.fld 0 (.t 119)),
       .o 121 (.ld1 (.t 120)),
       .c 122 (.f 19) [.t 121],
       .r 123 (.not (.t 122))])
    (.cond (.t 123)
      (.seq (.reg [.r 4 (.mv (.c (.nils))),
         .r 5 (.mv (.c (.d (.int .i64 3))))])
      .ret)
      .skip))))
  (.reg [.r 104 (.mv (.t 15)),
     .r 105 (.bin .add (.t 104) (.c (.d (.int .i64 1)))),
     .r 15 (.mv (.t 105))])))
def sc_interchangeref2_Split_B3 : SC := .block 4 (.loop sc_interchangeref2_Split_L3)
/-- interchange/interchangeref2.Split -/
def sc_interchangeref2_Split : SC :=
  (.seq (.reg [.r 2 (.boxI (.t 0)),
     .r 4 (.mv (.c (.nils))),
     .r 5 (.mv (.c (.d (.int .i64 0))))])
  (.seq (.seq (.reg [.o 16 (.ldA 7 (.t 2)),
     .c 17 (.f 16) [.t 16],
     .r 6 (.mv (.t 17))])
  (.seq (.reg [.r 18 (.mv (.t 6)),
     .r 19 (.bin .neq (.t 18) (.c (.d (.int .i64 0))))])
  (.cond (.t 19)
    (.seq (.reg [.r 20 (.mv (.t 6)),
       .r 4 (.mv (.c (.nils))),
       .r 5 (.mv (.t 20))])
    .ret)
    .skip)))
  (.seq (.seq (.reg (.r 21 (.mv (.t 1)) :: .r 22 (.bin .lss (.t 21) (.c (.d (.int .i64 1)))) :: .r 23 (.mv (.t 22)) :: gapp [24, 25] 23 false (.r 24 (.mv (.t 1)) :: .r 25 (.bin .gtr (.t 24) (.c (.d (.int .i64 200)))) :: []) (.r 26 (.pick (.t 23) (.c (.d (.bool true))) (.t 25)) :: [])))
  (.cond (.t 26)
    (.seq (.reg [.r 4 (.mv (.c (.nils))),
       .r 5 (.mv (.c (.d (.int .i64 1))))])
    .ret)
    .skip))
  (.seq (.reg [.r 7 (.mv (.c (.nils)))])
  (.seq (.reg [.o 27 (.ldA 7 (.t 2)),
     .w 8 (.boxM (.c (.agg [.d (.str []), .d (.str []), .d (.str []), .d (.int .i64 0), .d (.int .i64 0), .d (.bool false), .nils]))),
     .w 0 (.st 7 (.t 8) (.t 27))])
  (.seq (.reg [.r 28 (.fld 6 (.t 8)),
     .w 0 (.st 1 (.t 28) (.c (.nils)))])
  (.seq (.reg [.o 29 (.ldA 7 (.t 8)),
     .w 9 (.boxM (.c (.agg [.d (.str []), .d (.str []), .d (.str []), .d (.int .i64 0), .d (.int .i64 0), .d (.bool false), .nils]))),
     .w 0 (.st 7 (.t 9) (.t 29))])
  (.seq (.reg [.r 10 (.mv (.c (.d (.int .i64 0))))])
  (.seq (.seq (.reg [.r 11 (.mv (.c (.d (.int .i64 0))))])
  sc_interchangeref2_Split_B2)
  (.seq sc_interchangeref2_Split_R28
  (.seq (.seq (.reg [.r 15 (.mv (.c (.d (.int .i64 1))))])
  sc_interchangeref2_Split_B3)
  (.seq (.reg [.r 124 (.mv (.t 7)),
     .r 4 (.mv (.t 124)),
     .r 5 (.mv (.c (.d (.int .i64 0))))])
  .ret))))))))))))
theorem fit_interchangeref2_Split : fits Tryz.prog 5 Tryz.f5 sc_interchangeref2_Split [.t 4, .t 5] 2 = true := by kernel_rfl

set_option maxRecDepth 100000 in
set_option maxHeartbeats 40000000 in
noncomputable def sims_G9_0_0 : (∀ (x0 : Tapi_Interchange) (x1 : Int), {m : Option ((List Tapi_Interchange) × Int) // ∀ r, m = some r → PureSpec Tryz.prog 5 [.agg (rTapi_Interchange x0), .int .i64 x1] (.tup [.slice (List.map rTapi_Interchange r.1), .int .i64 r.2])}) := by
  (intro x0 x1; apply Subtype.mk; intro r hm; apply pure_walk Tryz.func5 fit_interchangeref2_Split; unfold sc_interchangeref2_Split)
  repeat' (first | ((with_reducible apply W_nilB (id := 9) (cid := 1294) (off := 6) (n := 3) (e := 41)); (focus (simp only [push_cast, seval]; (try rfl); done)); (focus (simp only [push_cast, seval]; (try rfl); done)); (focus decide); (focus (simp only [push_cast, seval]; (try rfl); done))) | ((with_reducible apply W_nilB (id := 13) (cid := 1418) (off := 2) (n := 4) (e := 46)); (focus (simp only [push_cast, seval]; (try rfl); done)); (focus (simp only [push_cast, seval]; (try rfl); done)); (focus decide); (focus (simp only [push_cast, seval]; (try rfl); done))) | ((apply W_frz (x := sc_interchangeref2_Split_R21) (id := 1418)); (focus (simp only [push_cast, seval]; (try rfl); done)); (focus (simp only [push_cast, seval]; (try rfl); done)); unfold sc_interchangeref2_Split_R21) | ((apply W_frz (x := sc_interchangeref2_Split_R22) (id := 1294)); (focus (simp only [push_cast, seval]; (try rfl); done)); (focus (simp only [push_cast, seval]; (try rfl); done)); unfold sc_interchangeref2_Split_R22) | ((apply W_frz (x := sc_interchangeref2_Split_R27) (id := 1418)); (focus (simp only [push_cast, seval]; (try rfl); done)); (focus (simp only [push_cast, seval]; (try rfl); done)); unfold sc_interchangeref2_Split_R27) | ((apply W_frz (x := sc_interchangeref2_Split_R28) (id := 1294)); (focus (simp only [push_cast, seval]; (try rfl); done)); (focus (simp only [push_cast, seval]; (try rfl); done)); unfold sc_interchangeref2_Split_R28) | with_reducible refine W_seq ?_ | with_reducible refine W_reg ?_ | with_reducible refine W_regE ?_ | with_reducible refine W_block ?_ | with_reducible refine W_skip ?_ | with_reducible refine W_ret ?_ | with_reducible refine W_exit ?_ | with_reducible refine O_nil ?_ | with_reducible refine K_seq ?_ | with_reducible refine K_seqE ?_ | with_reducible refine K_seqR ?_ | with_reducible refine K_block ?_ | with_reducible refine K_blockR ?_ | with_reducible refine O_o2r ?_ | ((with_reducible apply O_idxr hm); (iterate 2 (simp only [push_cast, seval]; rfl)); (intro _; rfl); intro e hm) | ((with_reducible apply O_idxVr hm); (iterate 3 (simp only [push_cast, seval]; rfl)); intro e hm) | ((with_reducible apply O_r); (simp only [push_cast, seval]; rfl); (first | exact trivial)) | ((with_reducible apply O_ldV1r hm); (iterate 2 (simp only [push_cast, seval]; rfl)); (intro _; rfl); intro e hm) | ((with_reducible apply O_strr hm); (iterate 2 (simp only [push_cast, seval]; rfl)); intro hm) | ((with_reducible apply O_or hm); (simp only [push_cast, seval]; rfl); rfl; intro v hm; rotate_left; intro v g hm) | ((with_reducible apply O_cF hm); (simp only [push_cast, seval]; rfl); (first | apply spec_interchangeref2_CheckInterchange _ | apply spec_interchangeref2_message _ | apply spec_strconv_Itoa _ | apply spec_interchangeref2_IsReference _); (any_goals ((repeat' (first | rfl)); done)); intro x hm) | ((with_reducible apply O_w); (simp only [push_cast, seval]; rfl); (first | exact trivial)) | ((with_reducible apply O_appV hm); (iterate 4 (simp only [push_cast, seval]; rfl)); (focus ((repeat' (first | rfl | (with_reducible first | apply fT_Tapi_Group | apply fT_Tapi_Interchange | apply dv_slice | apply fold_nil | apply fold_cons))); done)); decide; (intro _; rfl); intro hm) | ((with_reducible apply O_appVX hm); (iterate 2 (simp only [push_cast, seval]; rfl)); (focus ((repeat' (first | rfl | (with_reducible first | apply eR_nil))); done)); (simp only [push_cast, seval]; rfl); (focus ((repeat' (first | rfl | (with_reducible first | apply eR_nil | apply eR_cons | apply eT_Tapi_Message))); done)); (intro _; rfl); (focus ((repeat' (first | exact Rer_nil)); done)); intro hm) | ((with_reducible apply O_stVX hm); (iterate 3 (simp only [push_cast, seval]; rfl)); rfl; (intro _; rfl); rfl; (focus (intro a; simp only [push_cast, seval]; rfl)); (focus (intro a; (repeat' (first | rfl | with_reducible apply eT_Tapi_Interchange)); done)); (focus (intro _; (repeat' (first | exact Rer_nil)); done)); intro e hm) | ((with_reducible apply O_x); (simp only [push_cast, seval]; rfl); (first | exact trivial); (focus ((repeat' (first | exact Rer_nil)); done))) | ((with_reducible apply S_condB hm); (simp only [push_cast, seval]; rfl); intro hm; rotate_left; intro hm) | ((with_reducible apply K_end2 hm); (focus (simp only [resOf, resL, RV.get, push_cast, seval]; rfl)); (focus (first | (dsimp only; done))); (focus ((repeat' (first | rfl | (with_reducible first | apply f_tup | apply dv_slice | apply f_cons | apply fold_nil))); done))) | ((with_reducible apply K_bool hm); (simp only [push_cast, seval]; rfl)) | ((with_reducible apply K_leave hm); intro r hm) | ((with_reducible apply K_leaveR hm); intro r hm) | ((apply S_loopY (b := 2) (X := sc_interchangeref2_Split_B1) (x := sc_interchangeref2_Split_L1) rfl (fun (c : SV × SV × Ch × SV × Ch) (s : (List UInt8) × (List UInt8) × (List UInt8) × Int × Int × Bool × (List Tapi_Group) × (List UInt8) × (List UInt8) × (List Tapi_Message) × (List Tapi_Interchange) × Int × Int) => st [(1, c.1), (2, c.2.1), (7, .vec 7), (8, .ref 8 0), (9, .ref 9 0), (10, .d (.int .i64 s.2.2.2.2.2.2.2.2.2.2.2.1)), (11, c.2.2.2.1), (12, .ref 12 0), (13, .ref 13 0), (14, .d (.int .i64 s.2.2.2.2.2.2.2.2.2.2.2.2))] [(1294, .vec 41 3 (vrow rTapi_Group s.2.2.2.2.2.2.1)), (9, .box (bT_Tapi_Interchange s.1 s.2.1 s.2.2.1 s.2.2.2.1 s.2.2.2.2.1 s.2.2.2.2.2.1 1294)), (1418, .vec 46 4 (vrow rTapi_Message s.2.2.2.2.2.2.2.2.2.1)), (13, .box (bT_Tapi_Group s.2.2.2.2.2.2.2.1 s.2.2.2.2.2.2.2.2.1 1418)), (7, .vec 24 7 (vrow rTapi_Interchange s.2.2.2.2.2.2.2.2.2.2.1)), (8, c.2.2.1), (12, c.2.2.2.2)]) (c := (_, _, _, _, _)) (s0 := (_, _, _, _, _, _, _, _, _, _, _, _, _)) hm); (focus (first | (dsimp only; done))); (with_reducible refine Then.mk ?_ ?_)) | ((apply S_loopY (b := 0) (X := sc_interchangeref2_Split_B2) (x := sc_interchangeref2_Split_L2) rfl (fun (c : SV × SV × Ch) (s : (List UInt8) × (List UInt8) × (List UInt8) × Int × Int × Bool × (List Tapi_Group) × (List Tapi_Interchange) × Int × Int) => st [(1, c.1), (2, c.2.1), (7, .vec 7), (8, .ref 8 0), (9, .ref 9 0), (10, .d (.int .i64 s.2.2.2.2.2.2.2.2.1)), (11, .d (.int .i64 s.2.2.2.2.2.2.2.2.2))] [(1294, .vec 41 3 (vrow rTapi_Group s.2.2.2.2.2.2.1)), (9, .box (bT_Tapi_Interchange s.1 s.2.1 s.2.2.1 s.2.2.2.1 s.2.2.2.2.1 s.2.2.2.2.2.1 1294)), (7, .vec 24 7 (vrow rTapi_Interchange s.2.2.2.2.2.2.2.1)), (8, c.2.2)]) (c := (_, _, _)) (s0 := (_, _, _, _, _, _, _, _, _, _)) hm); (focus (first | (dsimp only; done))); (with_reducible refine Then.mk ?_ ?_); apply Imp.trans; (focus (apply imp_vecnil (slot := 7) (id := 7) (e := 24) (sz := 7); (focus (simp only [push_cast, seval]; done))))) | ((apply S_loopY (b := 4) (X := sc_interchangeref2_Split_B3) (x := sc_interchangeref2_Split_L3) rfl (fun (c : SV) (s : (List Tapi_Interchange) × Int) => st [(2, c), (7, .vec 7), (15, .d (.int .i64 s.2))] [(7, .vec 24 7 (vrow rTapi_Interchange s.1))]) (c := _) (s0 := (_, _)) hm); (focus (first | (dsimp only; done))); (with_reducible refine Then.mk ?_ ?_)) | ((apply K_next (s' := (_, _, _, _, _, _, _, _, _, _, _, _, _)) hm); (focus (first | (dsimp only; done)))) | ((apply K_brk (s' := (_, _, _, _, _, _, _, _, _, _, _, _, _)) hm); (focus (first | (dsimp only; done)))) | ((apply K_next (s' := (_, _, _, _, _, _, _, _, _, _)) hm); (focus (first | (dsimp only; done)))) | ((apply K_brk (s' := (_, _, _, _, _, _, _, _, _, _)) hm); (focus (first | (dsimp only; done)))) | ((apply K_next (s' := (_, _)) hm); (focus (first | (dsimp only; done)))) | ((apply K_brk (s' := (_, _)) hm); (focus (first | (dsimp only; done)))) | (((with_reducible apply K_brkR hm); intro r hm)) | (((with_reducible apply LoopB.of); (focus (first | (dsimp only; done))); (focus ((intro _; repeat' (first | with_reducible exact impC_end | with_reducible refine impC_seq ?_ | with_reducible refine impC_block ?_ | ((with_reducible refine impC_rnd ?_); intro _) | ((with_reducible refine impC_brk ?_); intro _))))); (intro s o hm; first | unfold sc_interchangeref2_Split_L1 | unfold sc_interchangeref2_Split_L2 | unfold sc_interchangeref2_Split_L3); rotate_left; intro s hm)) | (((apply imp_stT; (repeat' (first | with_reducible exact keepT_nil | with_reducible exact keepC_nil | with_reducible apply keepT_cons | with_reducible apply keepC_cons | ((with_reducible apply svle_eq); (focus (first | (simp only [push_cast, seval]; rfl))); (focus ((repeat' (first | rfl)); done))) | ((with_reducible apply chle_eq); (focus (first | (simp only [push_cast, seval]; rfl))); (first | with_reducible exact chle_rfl rfl | with_reducible apply chle_vec)) | (with_reducible first | apply r_nil))); done))))
noncomputable def m_interchangeref2_Split (x0 : Tapi_Interchange) (x1 : Int) : Option ((List Tapi_Interchange) × Int) := (sims_G9_0_0 x0 x1).1
theorem spec_interchangeref2_Split (x0 : Tapi_Interchange) (x1 : Int) : ∀ r, m_interchangeref2_Split x0 x1 = some r → PureSpec Tryz.prog 5 [.agg (rTapi_Interchange x0), .int .i64 x1] (.tup [.slice (List.map rTapi_Interchange r.1), .int .i64 r.2]) := (sims_G9_0_0 x0 x1).2

end Go.Proofs.YthcfbglbjipdaaaGreatDoor

/-
  Bodies of functions and what they compute, printed by programs of mine (wip/tool/gen.py, sc.py) out of the translation; the kernel holds each against the translation.
-/
namespace Go.Proofs.YthcfbglbjipdaaaGreatDoor
open Go.RowKit
set_option linter.unusedSimpArgs false
set_option linter.unusedVariables false
/-- interchange/interchangelaw2.awake -/
def sc_interchangelaw2_awake : SC :=
  (.seq (.reg [.r 0 (.mv (.c (.d (.bool false))))])
  (.seq (.reg [.r 4 (.build [.d (.int .u8 0), .d (.int .u8 0), .d (.int .u8 0), .d (.int .u8 0), .d (.int .u8 0)] [(0, 1, .c (.d (.int .u8 42))), (1, 1, .c (.d (.int .u8 58))), (2, 1, .c (.d (.int .u8 94))), (3, 1, .c (.d (.int .u8 63))), (4, 1, .c (.d (.int .u8 126)))]),
     .c 5 (.f 23) [.t 4],
     .r 3 (.mv (.t 5)),
     .r 6 (.ext (.t 3) 0),
     .r 7 (.ext (.t 3) 1),
     .r 1 (.mv (.t 6)),
     .r 2 (.mv (.t 7))])
  (.seq (.reg (.r 8 (.mv (.t 2)) :: .r 9 (.bin .eql (.t 8) (.c (.d (.int .i64 0)))) :: .r 10 (.mv (.t 9)) :: gapp [11, 12, 13] 10 true (.r 11 (.mv (.t 1)) :: .r 12 (.cvbs (.t 11)) :: .r 13 (.bin .eql (.t 12) (.c (.d (.str [77, 82, 75, 42, 58, 94, 63, 126])))) :: []) (.r 14 (.pick (.t 10) (.t 13) (.c (.d (.bool false)))) :: .r 0 (.mv (.t 14)) :: [])))
  .ret)))
theorem fit_interchangelaw2_awake : fits Tryz.prog 9 Tryz.f9 sc_interchangelaw2_awake [.t 0] 0 = true := by kernel_rfl

set_option maxRecDepth 100000 in
set_option maxHeartbeats 40000000 in
noncomputable def sims_GL_0_0 : ({m : Option (Bool) // ∀ r, m = some r → PureSpec Tryz.prog 9 [] (.bool r)}) := by
  (apply Subtype.mk; intro r hm; apply pure_walk Tryz.func9 fit_interchangelaw2_awake; unfold sc_interchangelaw2_awake)
  repeat' (first | with_reducible refine W_seq ?_ | with_reducible refine W_reg ?_ | with_reducible refine W_block ?_ | with_reducible refine W_skip ?_ | with_reducible refine W_ret ?_ | with_reducible refine W_exit ?_ | with_reducible refine O_nil ?_ | with_reducible refine K_seq ?_ | with_reducible refine K_seqE ?_ | with_reducible refine K_seqR ?_ | with_reducible refine K_block ?_ | with_reducible refine K_blockR ?_ | with_reducible refine K_blockE ?_ | ((with_reducible apply K_blockN); decide) | ((with_reducible apply O_cvbsD); (simp only [push_cast, seval]; rfl)) | ((with_reducible apply O_cvbsL); (simp only [push_cast, seval]; rfl); (focus (repeat' (first | exact bytesC_nil | with_reducible apply bytesC_cons)))) | ((with_reducible apply O_cvbsV); (iterate 2 (simp only [push_cast, seval]; rfl))) | ((with_reducible apply O_r); (simp only [push_cast, seval]; rfl); (first | exact trivial | omega)) | ((with_reducible apply O_and hm); (simp only [push_cast, seval]; rfl); rfl; intro v hm; rotate_left; intro v g hm) | ((with_reducible apply W_condT); (focus (simp only [push_cast, seval]; done))) | ((with_reducible apply W_condF); (focus (simp only [push_cast, seval]; done))) | ((with_reducible apply O_cF hm); (simp only [push_cast, seval]; rfl); (first | apply spec_wire_Heading _); (any_goals ((repeat' (first | rfl | (with_reducible first | apply fT_Tapi_Marks | apply f_optN | apply f_optS | apply f_some | apply f_tup | apply f_agg | apply f_ptr | apply f_fn | apply dv_slice | apply sv_d | apply f_cons | apply fold_nil | apply fold_cons | apply fold_app | apply f_rowI | apply f_rowY | apply f_rowS | apply f_rowB | apply f_rowL) | (with_reducible apply f_byte; decide))); done)); intro x hm) | ((with_reducible apply S_condB hm); (simp only [push_cast, seval]; rfl); intro hm; rotate_left; intro hm) | ((with_reducible apply K_endS hm); (focus (simp only [resOf, resL, RV.get, push_cast, seval]; rfl)); (focus ((repeat' (first | rfl | (with_reducible first | apply fT_Tapi_Marks | apply f_optN | apply f_optS | apply f_some | apply f_tup | apply f_agg | apply f_ptr | apply f_fn | apply dv_slice | apply sv_d | apply f_cons | apply fold_nil | apply fold_cons | apply fold_app | apply f_rowI | apply f_rowY | apply f_rowS | apply f_rowB | apply f_rowL) | (with_reducible apply f_byte; decide))); done))) | ((with_reducible apply K_bool hm); (simp only [push_cast, seval]; rfl)))
noncomputable def m_interchangelaw2_awake : Option (Bool) := (sims_GL_0_0 ).1
theorem spec_interchangelaw2_awake : ∀ r, m_interchangelaw2_awake  = some r → PureSpec Tryz.prog 9 [] (.bool r) := (sims_GL_0_0 ).2

def sc_interchangelaw2_WireSplitsMatchSpec_L1 : SC :=
  (.seq (.seq (.reg [.r 38 (.mv (.t 11)),
     .r 39 (.mv (.t 7)),
     .r 40 (.len (.t 39)),
     .r 41 (.bin .lss (.t 38) (.t 40))])
  (.cond (.t 41)
    .skip
    (.exit 0)))
  (.seq (.block 1 (.seq (.regD [.r 44 (.mv (.t 7)),
       .r 45 (.mv (.t 11)),
       .r 46 (.idx 7 (.t 44) (.t 45)),
       .r 47 (.ldA 7 (.t 46)),
       .r 48 (.mv (.t 9)),
       .r 49 (.mv (.t 11)),
       .r 50 (.idx 7 (.t 48) (.t 49)),
       .r 51 (.ldA 7 (.t 50)),
       .c 52 (.f 6) [.t 47, .t 51],
       .r 53 (.not (.t 52))])
    (.cond (.t 53)
      (.seq (.reg [.r 6 (.mv (.c (.d (.bool false))))])
      .ret)
      .skip)))
  (.reg [.r 42 (.mv (.t 11)),
     .r 43 (.bin .add (.t 42) (.c (.d (.int .i64 1)))),
     .r 11 (.mv (.t 43))])))
def sc_interchangelaw2_WireSplitsMatchSpec_B1 : SC := .block 0 (.loop sc_interchangelaw2_WireSplitsMatchSpec_L1)
/-- interchange/interchangelaw2.WireSplitsMatchSpec -/
def sc_interchangelaw2_WireSplitsMatchSpec : SC :=
  (.seq (.reg [.r 3 (.boxI (.t 0)),
     .r 6 (.mv (.c (.d (.bool false))))])
  (.seq (.reg [.o 17 (.ldA 7 (.t 3)),
     .r 18 (.mv (.t 1)),
     .c 19 (.f 4) [.t 17, .t 18],
     .r 16 (.mv (.t 19)),
     .r 20 (.ext (.t 16) 0),
     .r 21 (.ext (.t 16) 1),
     .r 7 (.mv (.t 20)),
     .r 8 (.mv (.t 21))])
  (.seq (.reg [.o 23 (.ldA 7 (.t 3)),
     .r 24 (.mv (.t 1)),
     .c 25 (.f 5) [.t 23, .t 24],
     .r 22 (.mv (.t 25)),
     .r 26 (.ext (.t 22) 0),
     .r 27 (.ext (.t 22) 1),
     .r 9 (.mv (.t 26)),
     .r 10 (.mv (.t 27))])
  (.seq (.seq (.reg (.r 28 (.mv (.t 7)) :: .r 29 (.len (.t 28)) :: .r 30 (.mv (.t 9)) :: .r 31 (.len (.t 30)) :: .r 32 (.bin .neq (.t 29) (.t 31)) :: .r 33 (.mv (.t 32)) :: gapp [34, 35, 36] 33 false (.r 34 (.mv (.t 8)) :: .r 35 (.mv (.t 10)) :: .r 36 (.bin .neq (.t 34) (.t 35)) :: []) (.r 37 (.pick (.t 33) (.c (.d (.bool true))) (.t 36)) :: [])))
  (.cond (.t 37)
    (.seq (.reg [.r 6 (.mv (.c (.d (.bool false))))])
    .ret)
    .skip))
  (.seq (.seq (.reg [.r 11 (.mv (.c (.d (.int .i64 0))))])
  sc_interchangelaw2_WireSplitsMatchSpec_B1)
  (.seq (.reg [.r 55 (.mv (.t 2)),
     .c 56 (.f 7) [.t 55],
     .r 54 (.mv (.t 56)),
     .r 57 (.ext (.t 54) 0),
     .r 58 (.ext (.t 54) 1),
     .w 12 (.boxM (.c (.agg [.d (.str []), .d (.str []), .d (.str []), .d (.int .i64 0), .d (.int .i64 0), .d (.bool false), .nils]))),
     .w 0 (.st 7 (.t 12) (.t 57)),
     .r 13 (.mv (.t 58))])
  (.seq (.reg [.r 60 (.mv (.t 2)),
     .c 61 (.f 8) [.t 60],
     .r 59 (.mv (.t 61)),
     .r 62 (.ext (.t 59) 0),
     .r 63 (.ext (.t 59) 1),
     .w 14 (.boxM (.c (.agg [.d (.str []), .d (.str []), .d (.str []), .d (.int .i64 0), .d (.int .i64 0), .d (.bool false), .nils]))),
     .w 0 (.st 7 (.t 14) (.t 62)),
     .r 15 (.mv (.t 63))])
  (.seq (.reg (.o 64 (.ldA 7 (.t 12)) :: .o 65 (.ldA 7 (.t 14)) :: .c 66 (.f 6) [.t 64, .t 65] :: .r 67 (.mv (.t 66)) :: gapp [68, 69, 70] 67 true (.r 68 (.mv (.t 13)) :: .r 69 (.mv (.t 15)) :: .r 70 (.bin .eql (.t 68) (.t 69)) :: []) (.r 71 (.pick (.t 67) (.t 70) (.c (.d (.bool false)))) :: .r 72 (.mv (.t 71)) :: gapp [73] 72 true (.c 73 (.f 9) [] :: []) (.r 74 (.pick (.t 72) (.t 73) (.c (.d (.bool false)))) :: .r 6 (.mv (.t 74)) :: []))))
  .ret))))))))
theorem fit_interchangelaw2_WireSplitsMatchSpec : fits Tryz.prog 3 Tryz.f3 sc_interchangelaw2_WireSplitsMatchSpec [.t 6] 3 = true := by kernel_rfl

set_option maxRecDepth 100000 in
set_option maxHeartbeats 40000000 in
noncomputable def sims_GL_1_0 : (∀ (x0 : Tapi_Interchange) (x1 : Int) (x2 : List Tapi_Interchange), {m : Option (Bool) // ∀ r, m = some r → PureSpec Tryz.prog 3 [.agg (rTapi_Interchange x0), .int .i64 x1, .slice (List.map rTapi_Interchange x2)] (.bool r)}) := by
  (intro x0 x1 x2; apply Subtype.mk; intro r hm; apply pure_walk Tryz.func3 fit_interchangelaw2_WireSplitsMatchSpec; unfold sc_interchangelaw2_WireSplitsMatchSpec)
  repeat' (first | with_reducible refine W_seq ?_ | with_reducible refine W_reg ?_ | with_reducible refine W_regD ?_ | with_reducible refine W_block ?_ | with_reducible refine W_skip ?_ | with_reducible refine W_ret ?_ | with_reducible refine W_exit ?_ | with_reducible refine O_nil ?_ | with_reducible refine K_seq ?_ | with_reducible refine K_seqE ?_ | with_reducible refine K_seqR ?_ | with_reducible refine K_block ?_ | with_reducible refine K_blockR ?_ | with_reducible refine K_blockE ?_ | ((with_reducible apply K_blockN); decide) | with_reducible refine O_o2r ?_ | ((with_reducible apply O_idxr hm); (iterate 2 (simp only [push_cast, seval]; rfl)); (intro _; rfl); intro e hm) | ((with_reducible apply O_idxVr hm); (iterate 3 (simp only [push_cast, seval]; rfl)); intro e hm) | ((with_reducible apply O_r); (simp only [push_cast, seval]; rfl); (first | exact trivial | omega)) | ((with_reducible apply O_ldV1r hm); (iterate 2 (simp only [push_cast, seval]; rfl)); (intro _; rfl); intro e hm) | ((with_reducible apply O_ldAVr hm); (iterate 2 (simp only [push_cast, seval]; rfl)); (intro _; rfl); intro e hm) | ((with_reducible apply O_strr hm); (iterate 2 (simp only [push_cast, seval]; rfl)); intro hm) | ((with_reducible apply O_and hm); (simp only [push_cast, seval]; rfl); rfl; intro v hm; rotate_left; intro v g hm) | ((with_reducible apply O_or hm); (simp only [push_cast, seval]; rfl); rfl; intro v hm; rotate_left; intro v g hm) | ((with_reducible apply W_condT); (focus (simp only [push_cast, seval]; done))) | ((with_reducible apply W_condF); (focus (simp only [push_cast, seval]; done))) | ((with_reducible apply O_cF hm); (simp only [push_cast, seval]; rfl); (first | apply spec_wire_Split _ _ | apply spec_interchangeref2_Split _ _ | apply spec_interchangeref2_SameInterchange _ _ | apply spec_wire_Merge _ | apply spec_interchangeref2_Merge _ | apply spec_interchangelaw2_awake); (any_goals ((repeat' (first | rfl | (with_reducible first | apply fT_Tapi_Element | apply fT_Tapi_Group | apply fT_Tapi_Interchange | apply fT_Tapi_Message | apply fT_Tapi_Segment | apply f_optN | apply f_optS | apply f_some | apply f_tup | apply f_agg | apply f_ptr | apply f_fn | apply dv_slice | apply sv_d | apply f_cons | apply fold_nil | apply fold_cons | apply fold_app | apply f_rowI | apply f_rowY | apply f_rowS | apply f_rowB | apply f_rowL) | (with_reducible apply f_byte; decide))); done)); intro x hm) | ((with_reducible apply O_w); (simp only [push_cast, seval]; rfl); (first | exact trivial | omega)) | ((with_reducible apply O_stVA hm); (iterate 4 (simp only [push_cast, seval]; rfl)); (focus ((repeat' (first | rfl | (with_reducible first | apply fT_Tapi_Element | apply fT_Tapi_Group | apply fT_Tapi_Interchange | apply fT_Tapi_Message | apply fT_Tapi_Segment | apply f_optN | apply f_optS | apply f_some | apply f_tup | apply f_agg | apply f_ptr | apply f_fn | apply dv_slice | apply sv_d | apply f_cons | apply fold_nil | apply fold_cons | apply fold_app | apply f_rowI | apply f_rowY | apply f_rowS | apply f_rowB | apply f_rowL) | (with_reducible apply f_byte; decide))); done)); decide; (intro _; rfl); intro e hm) | ((with_reducible apply S_condB hm); (simp only [push_cast, seval]; rfl); intro hm; rotate_left; intro hm) | ((with_reducible apply K_endS hm); (focus (simp only [resOf, resL, RV.get, push_cast, seval]; rfl)); (focus ((repeat' (first | rfl | (with_reducible first | apply fT_Tapi_Element | apply fT_Tapi_Group | apply fT_Tapi_Interchange | apply fT_Tapi_Message | apply fT_Tapi_Segment | apply f_optN | apply f_optS | apply f_some | apply f_tup | apply f_agg | apply f_ptr | apply f_fn | apply dv_slice | apply sv_d | apply f_cons | apply fold_nil | apply fold_cons | apply fold_app | apply f_rowI | apply f_rowY | apply f_rowS | apply f_rowB | apply f_rowL) | (with_reducible apply f_byte; decide))); done))) | ((with_reducible apply K_bool hm); (simp only [push_cast, seval]; rfl)) | ((with_reducible apply K_leave hm); intro r hm) | ((with_reducible apply K_leaveR hm); intro r hm) | ((apply S_loopY (b := 0) (X := sc_interchangelaw2_WireSplitsMatchSpec_B1) (x := sc_interchangelaw2_WireSplitsMatchSpec_L1) rfl (fun (c : SV × SV × SV) (s : Int) => st [(2, c.1), (7, c.2.1), (9, c.2.2), (11, .d (.int .i64 s))] []) (c := (_, _, _)) (s0 := _) hm); (focus (first | (dsimp only; done) | (dsimp only; rfl) | rfl)); (with_reducible refine Then.mk ?_ ?_)) | ((apply K_next (s' := _) hm); (focus (first | (dsimp only; done) | (dsimp only; rfl) | rfl))) | ((apply K_brk (s' := _) hm); (focus (first | (dsimp only; done) | (dsimp only; rfl) | rfl))) | (((with_reducible apply K_brkN hm); (focus decide); intro r hm)) | (((with_reducible apply K_brkR hm); intro r hm)) | (((with_reducible apply LoopB.of); (focus (first | (dsimp only; done) | (dsimp only; rfl) | rfl)); (focus ((intro _; repeat' (first | with_reducible exact impC_end | with_reducible exact impC_endF | with_reducible refine impC_seq ?_ | with_reducible refine impC_block ?_ | ((with_reducible refine impC_rnd ?_); intro _) | ((with_reducible refine impC_brk ?_); intro _))))); (intro s o hm; first | unfold sc_interchangelaw2_WireSplitsMatchSpec_L1); rotate_left; intro s hm)) | (((apply imp_stT; (repeat' (first | with_reducible exact keepT_nil | with_reducible exact keepC_nil | with_reducible apply keepT_cons | with_reducible apply keepC_cons | ((with_reducible apply svle_eq); (focus (first | (simp only [push_cast, seval]; rfl) | rfl)); (focus ((repeat' (first | rfl | (with_reducible first | apply fT_Tapi_Element | apply fT_Tapi_Group | apply fT_Tapi_Interchange | apply fT_Tapi_Message | apply fT_Tapi_Segment | apply f_optN | apply f_optS | apply f_some | apply f_tup | apply f_agg | apply f_ptr | apply f_fn | apply dv_slice | apply sv_d | apply f_cons | apply fold_nil | apply fold_cons | apply fold_app | apply f_rowI | apply f_rowY | apply f_rowS | apply f_rowB | apply f_rowL) | (with_reducible apply f_byte; decide))); done))) | ((with_reducible apply svle_td); (focus (first | (simp only [push_cast, seval]; rfl) | rfl)); (focus (first | (simp only [push_cast, seval]; rfl) | rfl)); (focus ((repeat' (first | rfl | (with_reducible first | apply fT_Tapi_Element | apply fT_Tapi_Group | apply fT_Tapi_Interchange | apply fT_Tapi_Message | apply fT_Tapi_Segment | apply f_optN | apply f_optS | apply f_some | apply f_tup | apply f_agg | apply f_ptr | apply f_fn | apply dv_slice | apply sv_d | apply f_cons | apply fold_nil | apply fold_cons | apply fold_app | apply f_rowI | apply f_rowY | apply f_rowS | apply f_rowB | apply f_rowL) | (with_reducible apply f_byte; decide))); done))) | ((with_reducible apply chle_eq); (focus (first | (simp only [push_cast, seval]; rfl) | rfl)); (first | with_reducible exact chle_rfl rfl | with_reducible exact chle_map0 | with_reducible apply chle_vec | with_reducible apply chle_box)) | (with_reducible first | apply cT_Tapi_Element | apply cT_Tapi_Group | apply cT_Tapi_Interchange | apply cT_Tapi_Message | apply cT_Tapi_Segment | apply bcT_Tapi_Group | apply bcT_Tapi_Interchange | apply r_shS | apply r_shI | apply r_rflO | apply r_oneO | apply r_appO | apply r_nilO | apply c_ownN | apply c_ownL | apply vc_rfl | apply vc_nil | apply vc_cons | apply r_rfl | apply r_rows | apply r_nil | apply r_app | apply r_cons | apply c_rowI | apply c_rowY | apply c_rowS | apply c_rowB | apply c_rowL))); done))))
noncomputable def m_interchangelaw2_WireSplitsMatchSpec (x0 : Tapi_Interchange) (x1 : Int) (x2 : List Tapi_Interchange) : Option (Bool) := (sims_GL_1_0 x0 x1 x2).1
theorem spec_interchangelaw2_WireSplitsMatchSpec (x0 : Tapi_Interchange) (x1 : Int) (x2 : List Tapi_Interchange) : ∀ r, m_interchangelaw2_WireSplitsMatchSpec x0 x1 x2 = some r → PureSpec Tryz.prog 3 [.agg (rTapi_Interchange x0), .int .i64 x1, .slice (List.map rTapi_Interchange x2)] (.bool r) := (sims_GL_1_0 x0 x1 x2).2

end Go.Proofs.YthcfbglbjipdaaaGreatDoor

/-
  How the parameters of the laws of this seat read, and a world in which the listed tables lie (printed by wip/tool/row.py).
-/
namespace Go.Proofs.YthcfbglbjipdaaaGreatDoor
open Go.ChangeShapes Go.WideShapes Go.ChangeAt Go.RowKit
set_option linter.unusedSimpArgs false
set_option linter.unusedVariables false
theorem and_t {a b : Bool} (h1 : a = true) (h2 : b = true) : (a && b) = true := by rw [h1, h2]; rfl
/-- How a value of a type reads. -/
def Wt (P : Program) (n : Nat) (t : TypeId) {α : Type} (row : α → List DV) (ok : α → Prop) : Prop := ∀ m ds, WT P (m + n) t ds → ∃ x, ds = row x ∧ ok x
theorem Wt.up {P : Program} {n : Nat} {t : TypeId} {α : Type} {row : α → List DV} {ok : α → Prop} (h : Wt P n t row ok) (k : Nat) : Wt P (n + k) t row ok := fun m ds hd => h (m + k) ds (by rwa [show m + k + n = m + (n + k) by omega])
def okI (n : Int) : Prop := -9223372036854775808 ≤ n ∧ n ≤ 9223372036854775807
def okS (s : List UInt8) : Prop := s.length ≤ 9223372036854775807
def okB (_ : Bool) : Prop := True
def okL {α : Type} (ok : α → Prop) (l : List α) : Prop := l.length ≤ 9223372036854775807 ∧ ∀ a ∈ l, ok a
theorem WT_struct {P : Program} {n : Nat} {t : TypeId} {fs : Array Field} {ds : List DV} (hu : P.underlying t = some (.struct fs)) (h : WT P (n + 1) t ds) : WTS (WT P n) fs.toList ds := by
  simp only [WT, hu] at h; exact h
theorem wt_int {P : Program} {t : TypeId} (hu : P.underlying t = some (.int .i64)) : Wt P 1 t rowI okI := by
  intro m ds h
  simp only [WT, hu] at h
  obtain ⟨k, rfl, hw⟩ := h
  refine ⟨k, rfl, ?_⟩
  simp [Lit.wf] at hw
  have e : IntKind.i64.min = -9223372036854775808 := by decide
  unfold okI; omega
theorem wt_bool {P : Program} {t : TypeId} (hu : P.underlying t = some .bool) : Wt P 1 t rowB okB := by
  intro m ds h
  simp only [WT, hu] at h
  obtain ⟨b, rfl⟩ := h
  exact ⟨b, rfl, trivial⟩
theorem wt_str {P : Program} {t : TypeId} (hu : P.underlying t = some .string) : Wt P 1 t rowS okS := by
  intro m ds h
  simp only [WT, hu] at h
  obtain ⟨b, rfl, hl⟩ := h
  exact ⟨b, rfl, by unfold okS; unfold maxLen at hl; omega⟩
theorem wt_slice {P : Program} {n : Nat} {t e : TypeId} {α : Type} {row : α → List DV} {ok : α → Prop} (hu : P.underlying t = some (.slice e)) (he : Wt P n e row ok) : Wt P (n + 1) t (rowL row) (okL ok) := by
  intro m ds h
  rw [show m + (n + 1) = (m + n) + 1 by omega] at h
  simp only [WT, hu] at h
  obtain ⟨rows, rfl, hl, hr⟩ := h
  have : ∀ rows : List (List DV), (∀ r ∈ rows, WT P (m + n) e r) → ∃ l : List α, rows = l.map row ∧ ∀ a ∈ l, ok a := by
    intro rows
    induction rows with
    | nil => intro _; exact ⟨[], rfl, by simp⟩
    | cons r rows ih =>
      intro h
      obtain ⟨a, rfl, ha⟩ := he m r (h r (by simp))
      obtain ⟨l, rfl, hl⟩ := ih (fun r hr => h r (by simp [hr]))
      exact ⟨a :: l, rfl, by simpa using ⟨ha, hl⟩⟩
  obtain ⟨l, rfl, hok⟩ := this rows hr
  exact ⟨l, rfl, by unfold maxLen at hl; simp at hl; omega, hok⟩
theorem ownK : ownKnob Tryz.prog.godebug = none := by kernel_rfl
theorem laidOut : laidOutB Tryz.prog = true := by kernel_rfl
theorem wt9 : Wt Tryz.prog 1 9 rowS okS := wt_str Tryz.underlying9
theorem wt3 : Wt Tryz.prog 1 3 rowI okI := wt_int Tryz.underlying3
theorem wt4 : Wt Tryz.prog 1 4 rowB okB := wt_bool Tryz.underlying4
theorem wt82 : Wt Tryz.prog 2 82 (rowL rowS) (okL okS) := wt_slice Tryz.underlying82 wt9
theorem wt78 : Wt Tryz.prog 3 78 (rowL (rowL rowS)) (okL (okL okS)) := wt_slice Tryz.underlying78 wt82
def okTapi_Element (x : Tapi_Element) : Prop := (okL (okL okS)) x.fRepeats
set_option maxRecDepth 100000 in
theorem wt80 : Wt Tryz.prog 4 80 rTapi_Element okTapi_Element := by
  intro m ds h
  have h := WT_struct Tryz.underlying80 h
  simp only [WTS] at h
  obtain ⟨a0, _, rfl, h0, rfl⟩ := h
  obtain ⟨x0, rfl, o0⟩ := (wt78.up 0) m _ h0
  refine ⟨⟨x0⟩, ?_, o0⟩
  simp only [rTapi_Element, rowI, rowY, rowS, rowB, rowL, List.append_assoc, List.cons_append, List.nil_append, List.append_nil]
theorem wt64 : Wt Tryz.prog 5 64 (rowL rTapi_Element) (okL okTapi_Element) := wt_slice Tryz.underlying64 wt80
def okTapi_Segment (x : Tapi_Segment) : Prop := okS x.fTag ∧ (okL okTapi_Element) x.fElements
set_option maxRecDepth 100000 in
theorem wt66 : Wt Tryz.prog 6 66 rTapi_Segment okTapi_Segment := by
  intro m ds h
  have h := WT_struct Tryz.underlying66 h
  simp only [WTS] at h
  obtain ⟨a0, _, rfl, h0, a1, _, rfl, h1, rfl⟩ := h
  obtain ⟨x0, rfl, o0⟩ := (wt9.up 4) m _ h0
  obtain ⟨x1, rfl, o1⟩ := (wt64.up 0) m _ h1
  refine ⟨⟨x0, x1⟩, ?_, o0, o1⟩
  simp only [rTapi_Segment, rowI, rowY, rowS, rowB, rowL, List.append_assoc, List.cons_append, List.nil_append, List.append_nil]
theorem wt44 : Wt Tryz.prog 7 44 (rowL rTapi_Segment) (okL okTapi_Segment) := wt_slice Tryz.underlying44 wt66
def okTapi_Message (x : Tapi_Message) : Prop := okS x.fRef ∧ okS x.fKind ∧ okS x.fVersion ∧ (okL okTapi_Segment) x.fSegments
set_option maxRecDepth 100000 in
theorem wt46 : Wt Tryz.prog 8 46 rTapi_Message okTapi_Message := by
  intro m ds h
  have h := WT_struct Tryz.underlying46 h
  simp only [WTS] at h
  obtain ⟨a0, _, rfl, h0, a1, _, rfl, h1, a2, _, rfl, h2, a3, _, rfl, h3, rfl⟩ := h
  obtain ⟨x0, rfl, o0⟩ := (wt9.up 6) m _ h0
  obtain ⟨x1, rfl, o1⟩ := (wt9.up 6) m _ h1
  obtain ⟨x2, rfl, o2⟩ := (wt9.up 6) m _ h2
  obtain ⟨x3, rfl, o3⟩ := (wt44.up 0) m _ h3
  refine ⟨⟨x0, x1, x2, x3⟩, ?_, o0, o1, o2, o3⟩
  simp only [rTapi_Message, rowI, rowY, rowS, rowB, rowL, List.append_assoc, List.cons_append, List.nil_append, List.append_nil]
theorem wt39 : Wt Tryz.prog 9 39 (rowL rTapi_Message) (okL okTapi_Message) := wt_slice Tryz.underlying39 wt46
def okTapi_Group (x : Tapi_Group) : Prop := okS x.fRef ∧ okS x.fKind ∧ (okL okTapi_Message) x.fMessages
set_option maxRecDepth 100000 in
theorem wt41 : Wt Tryz.prog 10 41 rTapi_Group okTapi_Group := by
  intro m ds h
  have h := WT_struct Tryz.underlying41 h
  simp only [WTS] at h
  obtain ⟨a0, _, rfl, h0, a1, _, rfl, h1, a2, _, rfl, h2, rfl⟩ := h
  obtain ⟨x0, rfl, o0⟩ := (wt9.up 8) m _ h0
  obtain ⟨x1, rfl, o1⟩ := (wt9.up 8) m _ h1
  obtain ⟨x2, rfl, o2⟩ := (wt39.up 0) m _ h2
  refine ⟨⟨x0, x1, x2⟩, ?_, o0, o1, o2⟩
  simp only [rTapi_Group, rowI, rowY, rowS, rowB, rowL, List.append_assoc, List.cons_append, List.nil_append, List.append_nil]
theorem wt22 : Wt Tryz.prog 11 22 (rowL rTapi_Group) (okL okTapi_Group) := wt_slice Tryz.underlying22 wt41
def okTapi_Interchange (x : Tapi_Interchange) : Prop := okS x.fRef ∧ okS x.fSender ∧ okS x.fReceiver ∧ okI x.fDay ∧ okI x.fSecond ∧ okB x.fTest ∧ (okL okTapi_Group) x.fGroups
set_option maxRecDepth 100000 in
theorem wt24 : Wt Tryz.prog 12 24 rTapi_Interchange okTapi_Interchange := by
  intro m ds h
  have h := WT_struct Tryz.underlying24 h
  simp only [WTS] at h
  obtain ⟨a0, _, rfl, h0, a1, _, rfl, h1, a2, _, rfl, h2, a3, _, rfl, h3, a4, _, rfl, h4, a5, _, rfl, h5, a6, _, rfl, h6, rfl⟩ := h
  obtain ⟨x0, rfl, o0⟩ := (wt9.up 10) m _ h0
  obtain ⟨x1, rfl, o1⟩ := (wt9.up 10) m _ h1
  obtain ⟨x2, rfl, o2⟩ := (wt9.up 10) m _ h2
  obtain ⟨x3, rfl, o3⟩ := (wt3.up 10) m _ h3
  obtain ⟨x4, rfl, o4⟩ := (wt3.up 10) m _ h4
  obtain ⟨x5, rfl, o5⟩ := (wt4.up 10) m _ h5
  obtain ⟨x6, rfl, o6⟩ := (wt22.up 0) m _ h6
  refine ⟨⟨x0, x1, x2, x3, x4, x5, x6⟩, ?_, o0, o1, o2, o3, o4, o5, o6⟩
  simp only [rTapi_Interchange, rowI, rowY, rowS, rowB, rowL, List.append_assoc, List.cons_append, List.nil_append, List.append_nil]
theorem wt25 : Wt Tryz.prog 13 25 (rowL rTapi_Interchange) (okL okTapi_Interchange) := wt_slice Tryz.underlying25 wt24
def layVals : Nat → DataW Unit → List Value
  | 0, _ => []
  | _ + 1, .lit (.int k n) => [.int k n]
  | n + 1, .agg ps => ps.flatMap (layVals n)
  | _ + 1, _ => []
/-- The settled world, with the listed tables in it. -/
def layCells (l : List Value) : Obj → Obj
  | .cells _ t frozen => .cells l.toArray t frozen
  | o => o
noncomputable def laidWorld (os : Os) : World :=
  { World.holding Tryz.prog os ⟨#[], #[], []⟩ with
    heap := ((((((World.holding Tryz.prog os ⟨#[], #[], []⟩).heap.modify 4 (layCells (layVals 5 Rows.laid_math_bits_deBruijn32tab))).modify 5 (layCells (layVals 5 Rows.laid_math_bits_deBruijn64tab))).modify 0 (layCells (layVals 5 Rows.laid_internal_strconv_uint64pow10))).modify 2 (layCells (layVals 5 Rows.laid_unicode_utf8_acceptRanges))).modify 1 (layCells (layVals 5 Rows.laid_unicode_utf8_first))) }
end Go.Proofs.YthcfbglbjipdaaaGreatDoor

/- Imports alone. -/


/-
  Plain laws: small computations, and loops whose rounds are known.
-/
namespace Go.Proofs.YthcfbglbjipdaaaGreatDoor
set_option linter.unusedSimpArgs false
set_option linter.unusedVariables false
open Go.RowKit

/-! ### Small computations that cannot fail -/
theorem andO_some (a b : Bool) : andO a (some b) = some (a && b) := by cases a <;> rfl
theorem orO_some (a b : Bool) : orO a (some b) = some (a || b) := by cases a <;> rfl
theorem getI_nat {α : Type} (l : List α) (i : Nat) : getI l (i : Int) = l[i]? := by simp [getI]
theorem thenO_some {R : Type} {c : Option Unit} {m : Option R} (h : c = some ()) : thenO c m = m := by rw [h]; rfl
theorem lenO_ok {n : Nat} (h : n ≤ 137438953472) : lenO n = some () := by simp [lenO, h]
theorem wrapN (i : Nat) (h : i < 9223372036854775807) : IntKind.i64.wrap ((i : Int) + 1) = ((i + 1 : Nat) : Int) := by rw [wrap64 _ (by omega) (by omega)]; simp


/-! ### Loops whose rounds are known -/
theorem loop_trace {S A : Type} {f : S → Option (S ⊕ A)} {a : A} (st : Nat → S) (n : Nat) (hs : ∀ i, i < n → f (st i) = some (.inl (st (i + 1)))) (he : f (st n) = some (.inr a)) : loopC f (st 0) = some a := by
  have : ∀ k, k ≤ n → loopC f (st (n - k)) = some a := by
    intro k
    induction k with
    | zero => intro _; rw [loopC_eq, Nat.sub_zero, he]
    | succ k ih =>
      intro hk
      rw [loopC_eq, hs (n - (k + 1)) (by omega), show n - (k + 1) + 1 = n - k by omega]
      exact ih (by omega)
  have := this n (Nat.le_refl n)
  rwa [Nat.sub_self] at this
theorem bind_loop {S A R : Type} {f : S → Option (S ⊕ A)} {s0 : S} {k : A → Option R} {a : A} {r : Option R} (h : loopC f s0 = some a) (hk : k a = r) : (loopC f s0).bind k = r := by rw [h]; exact hk
/-- The first that there is. -/
def firstS {A : Type} (g : Nat → Option A) : Nat → Nat → Option A
  | _, 0 => none
  | i, n + 1 => match g i with
    | some a => some a
    | none => firstS g (i + 1) n
theorem firstS_skip {A : Type} {g : Nat → Option A} : ∀ (i n k : Nat), k ≤ n → (∀ j, i ≤ j → j < i + k → g j = none) → firstS g i n = firstS g (i + k) (n - k)
  | i, n, 0, _, _ => by simp
  | i, 0, k + 1, h, _ => by omega
  | i, n + 1, k + 1, h, hz => by
    have h1 := hz i (by omega) (by omega)
    simp only [firstS, h1]
    rw [firstS_skip (i + 1) n k (by omega) (fun j hj hj' => hz j (by omega) (by omega))]
    congr 1 <;> omega
theorem firstS_none {A : Type} {g : Nat → Option A} {n : Nat} (h : ∀ j, j < n → g j = none) : firstS g 0 n = none := by
  rw [firstS_skip 0 n n (by omega) (fun j _ hj => h j (by omega)), Nat.sub_self]; rfl
theorem firstS_some {A : Type} {g : Nat → Option A} {n k : Nat} {a : A} (hk : k < n) (hb : ∀ j, j < k → g j = none) (ha : g k = some a) : firstS g 0 n = some a := by
  rw [firstS_skip 0 n k (by omega) (fun j _ hj => hb j (by omega))]
  obtain ⟨m, hm⟩ : ∃ m, n - k = m + 1 := ⟨n - k - 1, by omega⟩
  rw [hm, Nat.zero_add]
  simp only [firstS, ha]
theorem firstS_cases {A : Type} (g : Nat → Option A) (n : Nat) : (firstS g 0 n = none ∧ ∀ j, j < n → g j = none) ∨ ∃ k a, k < n ∧ (∀ j, j < k → g j = none) ∧ g k = some a ∧ firstS g 0 n = some a := by
  by_cases h : ∃ k, k < n ∧ (g k).isSome = true
  · have : ∃ k, (k < n ∧ (g k).isSome = true) ∧ ∀ j, j < k → ¬ (j < n ∧ (g j).isSome = true) := by
      obtain ⟨k, hk⟩ := h
      induction k using Nat.strongRecOn with
      | _ k ih =>
        by_cases hj : ∃ j, j < k ∧ (j < n ∧ (g j).isSome = true)
        · obtain ⟨j, h1, h2⟩ := hj; exact ih j h1 h2
        · exact ⟨k, hk, fun j h1 h2 => hj ⟨j, h1, h2⟩⟩
    obtain ⟨k, ⟨h1, h2⟩, h3⟩ := this
    obtain ⟨a, ha⟩ := Option.isSome_iff_exists.1 h2
    have hb : ∀ j, j < k → g j = none := fun j hj => by
      have := h3 j hj
      cases hg : g j with
      | none => rfl
      | some b => exact absurd ⟨by omega, by simp [hg]⟩ this
    exact .inr ⟨k, a, h1, hb, ha, firstS_some h1 hb ha⟩
  · have hn : ∀ j, j < n → g j = none := fun j hj => by
      cases hg : g j with
      | none => rfl
      | some b => exact absurd ⟨j, hj, by simp [hg]⟩ h
    exact .inl ⟨firstS_none hn, hn⟩
theorem loop_first {S A : Type} {f : S → Option (S ⊕ A)} {z : A} (st : Nat → S) (n : Nat) (g : Nat → Option A) (hs : ∀ i, i < n → g i = none → f (st i) = some (.inl (st (i + 1)))) (hx : ∀ i a, i < n → g i = some a → f (st i) = some (.inr a)) (he : f (st n) = some (.inr z)) : loopC f (st 0) = some ((firstS g 0 n).getD z) := by
  rcases firstS_cases g n with ⟨h1, h2⟩ | ⟨k, a, h1, h2, h3, h4⟩
  · rw [h1, Option.getD_none]
    exact loop_trace st n (fun i hi => hs i hi (h2 i hi)) he
  · rw [h4, Option.getD_some]
    exact loop_trace st k (fun i hi => hs i (by omega) (h2 i hi)) (hx k a h1 h3)
theorem take_snoc {α : Type} {l : List α} {i : Nat} {e : α} (h : l[i]? = some e) : l.take (i + 1) = l.take i ++ [e] := by rw [List.take_add_one, h]; rfl
theorem foldl_snoc {α β : Type} {g : β → α → β} {b : β} {l : List α} {i : Nat} {e : α} (h : l[i]? = some e) : (l.take (i + 1)).foldl g b = g ((l.take i).foldl g b) e := by
  rw [take_snoc h, List.foldl_append]; rfl
theorem get_lt {α : Type} {l : List α} {i : Nat} (h : i < l.length) : ∃ e, l[i]? = some e := ⟨_, List.getElem?_eq_getElem h⟩
theorem lt_dec {i n : Nat} (h : i < n) : decide ((i : Int) < (n : Int)) = true := by simpa using h
theorem lt_dec_self (n : Nat) : decide ((n : Int) < (n : Int)) = false := by simp
end Go.Proofs.YthcfbglbjipdaaaGreatDoor

/-
  Plain laws of the wire: marks.
-/
namespace Go.Proofs.YthcfbglbjipdaaaGreatDoor
set_option linter.unusedSimpArgs false
set_option linter.unusedVariables false
open Go.RowKit

def markB (b : UInt8) : Bool := !(decide ((b.toNat : Int) < 33) || decide (126 < (b.toNat : Int)) || decide ((b.toNat : Int) = 46) || decide ((b.toNat : Int) = 45) || decide ((b.toNat : Int) = 43) || decide ((b.toNat : Int) = 95)) && !(decide (65 ≤ (b.toNat : Int)) && decide ((b.toNat : Int) ≤ 90) || decide (97 ≤ (b.toNat : Int)) && decide ((b.toNat : Int) ≤ 122) || decide (48 ≤ (b.toNat : Int)) && decide ((b.toNat : Int) ≤ 57))
/-- A loop over a list that ends at the first element of which h says something. -/
theorem loop_find {α R : Type} (l : List α) (h : α → Option R) {f : Int → Option (Int ⊕ (Int ⊕ R))} (hb : ∀ (i : Nat) (e : α), l[i]? = some e → f (i : Int) = (match h e with | some a => some (.inr (.inr a)) | none => some (.inl ((i + 1 : Nat) : Int))))
    (he : f (l.length : Int) = some (.inr (.inl (l.length : Int)))) : loopC f 0 = some (match l.findSome? h with | some a => .inr a | none => .inl (l.length : Int)) := by
  have : ∀ (t : List α) (i : Nat), l.drop i = t → i ≤ l.length → loopC f (i : Int) = some (match t.findSome? h with | some a => .inr a | none => .inl (l.length : Int)) := by
    intro t
    induction t with
    | nil =>
      intro i hd hi
      have : i = l.length := by have := congrArg List.length hd; simp at this; omega
      subst this
      rw [loopC_eq, he]
      rfl
    | cons e t ih =>
      intro i hd hi
      have h1 : l[i]? = some e := by
        have := congrArg (fun q => q[0]?) hd
        simpa using this
      have h2 : i < l.length := by
        rcases Nat.lt_or_ge i l.length with h | h
        · exact h
        · rw [List.drop_eq_nil_of_le h] at hd; cases hd
      have h3 : l.drop (i + 1) = t := by
        have := congrArg List.tail hd
        simpa using this
      rw [loopC_eq, hb i e h1, List.findSome?_cons]
      cases h e with
      | some a => rfl
      | none => exact ih (i + 1) h3 h2
  exact this l 0 rfl (Nat.zero_le _)
theorem inBytes_eq (l : List UInt8) (lo hi : UInt8) (hl : l.length < 9223372036854775807) : m_kit_InBytes l lo hi = some (match l.findSome? fun x => if (decide ((x.toNat : Int) < (lo.toNat : Int)) || decide ((hi.toNat : Int) < (x.toNat : Int))) = true then some false else none with | some b => b | none => true) := by
  unfold m_kit_InBytes sims_G1_0_0; dsimp only
  refine bind_loop (loop_find l (fun x => if (decide ((x.toNat : Int) < (lo.toNat : Int)) || decide ((hi.toNat : Int) < (x.toNat : Int))) = true then some false else none) (fun i e h => ?_) ?_) ?_
  · obtain ⟨hi', -⟩ := List.getElem?_eq_some_iff.1 h
    simp only [lt_dec hi', cond_true, getI_nat, h, Option.bind_some, orO_some, wrapN i (by omega)]
    cases (decide ((e.toNat : Int) < (lo.toNat : Int)) || decide ((hi.toNat : Int) < (e.toNat : Int))) <;> rfl
  · simp only [lt_dec_self, cond_false]; rfl
  · cases l.findSome? _ <;> rfl
theorem enc_ascii (b : UInt8) (h : b.toNat < 128) : (Utf8.encode (b.toNat : Int)).data.toList = [b] := by
  have : ∀ n : Fin 128, (Utf8.encode ((n.1 : Nat) : Int)).data.toList = [UInt8.ofNat n.1] := by decide
  have := this ⟨b.toNat, h⟩
  rw [this]
  simp
end Go.Proofs.YthcfbglbjipdaaaGreatDoor

/-
  Plain laws of the wire: a byte that may be a mark.
-/
namespace Go.Proofs.YthcfbglbjipdaaaGreatDoor
set_option linter.unusedSimpArgs false
set_option linter.unusedVariables false
open Go.RowKit

def tagSet : List UInt8 := [65, 66, 67, 68, 69, 70, 71, 72, 73, 74, 75, 76, 77, 78, 79, 80, 81, 82, 83, 84, 85, 86, 87, 88, 89, 90, 48, 49, 50, 51, 52, 53, 54, 55, 56, 57]
theorem isTagPart_eq (l : List UInt8) (hl : l.length ≤ 9223372036854775807) : m_kit_IsTagPart l = some (decide (Lib.trimS l tagSet = [])) := by
  unfold m_kit_IsTagPart sims_G1_0_0; dsimp only
  have : m_strings_Trim l tagSet = some (Lib.trimS l tagSet) := by unfold m_strings_Trim; rw [if_pos ⟨hl, by decide, by decide⟩]
  simp only [tagSet] at this ⊢
  rw [this]
  rfl
def wMark (b : UInt8) : Bool := !decide (Lib.trimS [b] tagSet = []) && !(match [b].findSome? fun x => if (decide ((x.toNat : Int) < 97) || decide ((122 : Int) < (x.toNat : Int))) = true then some false else none with | some b => b | none => true) && !Lib.containsAny [b] [46, 45, 43, 95]
theorem wMark_all : (List.range 256).all (fun n => decide (n < 33) || decide (126 < n) || (wMark (UInt8.ofNat n) == markB (UInt8.ofNat n))) = true := by kernel_rfl
theorem w_mark (b : UInt8) : m_wire_isMarkByte b = some (markB b) := by
  unfold m_wire_isMarkByte sims_G1_1_0; dsimp only
  by_cases h : 33 ≤ b.toNat ∧ b.toNat ≤ 126
  · have hc : m_strings_ContainsAny [b] [46, 45, 43, 95] = some (Lib.containsAny [b] [46, 45, 43, 95]) := by
      unfold m_strings_ContainsAny
      rw [if_pos ⟨by simp, by simp, by simp; omega, by decide⟩]
    have hw := List.all_eq_true.1 wMark_all b.toNat (List.mem_range.2 b.toNat_lt)
    have hb : UInt8.ofNat b.toNat = b := by simp
    rw [hb] at hw
    have d1 : decide ((33 : Int) ≤ (b.toNat : Int)) = true := by simp; omega
    have d2 : decide ((b.toNat : Int) ≤ 126) = true := by simp; omega
    have d3 : decide (b.toNat < 33) = false := by simp; omega
    have d4 : decide (126 < b.toNat) = false := by simp; omega
    simp only [d3, d4, Bool.false_or, beq_iff_eq] at hw
    rw [← hw]
    simp only [enc_ascii b (by omega), isTagPart_eq [b] (by simp), inBytes_eq [b] _ _ (by simp), hc, andO_some, Option.bind_some, d1, d2, Bool.true_and]
    rfl
  · have hm : markB b = false := by
      unfold markB
      have : (decide ((b.toNat : Int) < 33) || decide (126 < (b.toNat : Int))) = true := by simp; omega
      rw [this]
      simp
    have d : (decide ((33 : Int) ≤ (b.toNat : Int)) && decide ((b.toNat : Int) ≤ 126)) = false := by simp; omega
    rw [hm]
    simp only [andO_some, Option.bind_some, d]
    rfl
end Go.Proofs.YthcfbglbjipdaaaGreatDoor

/-
  Plain laws of the wire: texts.
-/
namespace Go.Proofs.YthcfbglbjipdaaaGreatDoor
set_option linter.unusedSimpArgs false
set_option linter.unusedVariables false
open Go.RowKit

def badT (x : UInt8) : Bool := decide ((x.toNat : Int) < 32) || decide (126 < (x.toNat : Int))
def textF (t : List UInt8) : Int := if 1000 < t.length then 2 else match t.findSome? (fun x => if badT x = true then some (3 : Int) else none) with | some a => a | none => 0
theorem findSome_congr2 {α A B : Type} (p : α → Bool) (a : A) (b : B) : ∀ (l : List α), (l.findSome? (fun x => if p x = true then some a else none) = none ∧ l.findSome? (fun x => if p x = true then some b else none) = none) ∨ (l.findSome? (fun x => if p x = true then some a else none) = some a ∧ l.findSome? (fun x => if p x = true then some b else none) = some b)
  | [] => .inl ⟨rfl, rfl⟩
  | x :: l => by
    rw [List.findSome?_cons, List.findSome?_cons]
    cases h : p x with
    | true => exact .inr ⟨by simp, by simp⟩
    | false => simpa using findSome_congr2 p a b l
theorem r_text (t : List UInt8) : m_interchangeref2_checkText t = some (textF t) := by
  unfold m_interchangeref2_checkText sims_G1_0_0; dsimp only
  unfold textF
  by_cases h : 1000 < t.length
  · have : decide ((1000 : Int) < (t.length : Int)) = true := by simp; omega
    simp only [this, cond_true, h, if_true]
  · have : decide ((1000 : Int) < (t.length : Int)) = false := by simp; omega
    simp only [this, cond_false, h, if_false]
    refine bind_loop (loop_find t (fun x => if badT x = true then some (3 : Int) else none) (fun i e he => ?_) ?_) ?_
    · obtain ⟨hi', -⟩ := List.getElem?_eq_some_iff.1 he
      simp only [lt_dec hi', cond_true, getI_nat, he, Option.bind_some, orO_some, wrapN i (by omega)]
      show (bif badT e then inrO (inrO (some 3)) else some (Sum.inl ((i + 1 : Nat) : Int))) = _
      cases badT e <;> rfl
    · simp only [lt_dec_self, cond_false]; rfl
    · cases t.findSome? _ <;> rfl
theorem w_text (t : List UInt8) : m_wire_textFault t = some (textF t) := by
  unfold m_wire_textFault sims_G1_2_0; dsimp only
  unfold textF
  by_cases h : 1000 < t.length
  · have : decide ((1000 : Int) < (t.length : Int)) = true := by simp; omega
    simp only [this, cond_true, h, if_true]
  · have h1 : decide ((1000 : Int) < (t.length : Int)) = false := by simp; omega
    have h2 : decide ((t.length : Int) ≤ 1000) = true := by simp; omega
    have hT : m_kit_IsText t = some (match t.findSome? fun x => if badT x = true then some false else none with | some b => b | none => true) := by
      unfold m_kit_IsText sims_G1_1_0; dsimp only
      simp only [h2, inBytes_eq t _ _ (by omega), andO_some, Option.bind_some, Bool.true_and]
      rfl
    simp only [h1, cond_false, h, if_false, hT, Option.bind_some]
    rcases findSome_congr2 badT (3 : Int) false t with ⟨e1, e2⟩ | ⟨e1, e2⟩ <;> rw [e1, e2] <;> rfl
end Go.Proofs.YthcfbglbjipdaaaGreatDoor

/-
  Plain laws: loops over lists with a state and an early end; folds over nested lists.
-/
namespace Go.Proofs.YthcfbglbjipdaaaGreatDoor
set_option linter.unusedSimpArgs false
set_option linter.unusedVariables false
open Go.RowKit

/-- A loop over a list: the number, the state and the element give the next state or the end. -/
def runI {α S A : Type} (g : Nat → S → α → Option (S ⊕ A)) (fin : S → Option A) : List α → Nat → S → Option A
  | [], _, s => fin s
  | e :: l, i, s => match g i s e with
    | some (.inl s') => runI g fin l (i + 1) s'
    | some (.inr a) => some a
    | none => none
theorem drop_head {α : Type} {l t : List α} {e : α} {i : Nat} (hd : l.drop i = e :: t) : l[i]? = some e ∧ i < l.length ∧ l.drop (i + 1) = t := by
  refine ⟨?_, ?_, ?_⟩
  · have := congrArg (fun q => q[0]?) hd
    simpa using this
  · rcases Nat.lt_or_ge i l.length with h | h
    · exact h
    · rw [List.drop_eq_nil_of_le h] at hd; cases hd
  · have := congrArg List.tail hd
    simpa using this
theorem drop_nil_len {α : Type} {l : List α} {i : Nat} (hd : l.drop i = []) (hi : i ≤ l.length) : i = l.length := by
  have := congrArg List.length hd; simp at this; omega
theorem loop_runI {α S T A : Type} (l : List α) (mk : Nat → S → T) (g : Nat → S → α → Option (S ⊕ A)) (fin : S → Option A) {f : T → Option (T ⊕ A)}
    (hb : ∀ (i : Nat) (e : α) (s : S), l[i]? = some e → f (mk i s) = (match g i s e with | some (.inl s') => some (.inl (mk (i + 1) s')) | some (.inr a) => some (.inr a) | none => none))
    (he : ∀ s, f (mk l.length s) = (fin s).map .inr) (s : S) : loopC f (mk 0 s) = runI g fin l 0 s := by
  have : ∀ (t : List α) (i : Nat) (s : S), l.drop i = t → i ≤ l.length → loopC f (mk i s) = runI g fin t i s := by
    intro t
    induction t with
    | nil =>
      intro i s hd hi
      have := drop_nil_len hd hi
      subst this
      rw [loopC_eq, he]
      simp only [runI]
      cases fin s <;> rfl
    | cons e t ih =>
      intro i s hd hi
      obtain ⟨h1, h2, h3⟩ := drop_head hd
      rw [loopC_eq, hb i e s h1]
      simp only [runI]
      cases g i s e with
      | none => rfl
      | some o =>
        cases o with
        | inr a => rfl
        | inl s' => exact ih (i + 1) s' h3 h2
  exact this l 0 s rfl (Nat.zero_le _)
/-- A loop over a list whose state before each round is known from what is before. -/
theorem loop_pre {α T A : Type} (l : List α) (st : Nat → List α → T) {f : T → Option (T ⊕ A)} {a : A}
    (hb : ∀ (i : Nat) (e : α), l[i]? = some e → f (st i (l.take i)) = some (.inl (st (i + 1) (l.take i ++ [e]))))
    (he : f (st l.length l) = some (.inr a)) : loopC f (st 0 []) = some a := by
  have := loop_trace (f := f) (a := a) (fun i => st i (l.take i)) l.length (fun i hi => by
    obtain ⟨e, h⟩ := get_lt hi
    show f (st i (l.take i)) = some (.inl (st (i + 1) (l.take (i + 1))))
    rw [hb i e h, take_snoc h]) (by
    show f (st l.length (l.take l.length)) = _
    rw [List.take_length]; exact he)
  simpa using this
theorem get_le {α : Type} {l : List α} {i : Nat} {e : α} (h : l[i]? = some e) : i < l.length := (List.getElem?_eq_some_iff.1 h).1
theorem thenO_ok {R : Type} {n : Nat} {m : Option R} (h : n ≤ 137438953472) : thenO (lenO n) m = m := thenO_some (lenO_ok h)
end Go.Proofs.YthcfbglbjipdaaaGreatDoor

/-
  Plain laws of the wire: tags, elements, segments.
-/
namespace Go.Proofs.YthcfbglbjipdaaaGreatDoor
set_option linter.unusedSimpArgs false
set_option linter.unusedVariables false
open Go.RowKit

/-- The first fault of a list. -/
def listF {α : Type} (h : α → Int) : List α → Int
  | [] => 0
  | e :: l => if h e = 0 then listF h l else h e
theorem loop_fault {α R : Type} (l : List α) (h : α → Int) (ret : Int → R) (k : Int → Option R) {f : Int → Option (Int ⊕ (Int ⊕ R))}
    (hb : ∀ (i : Nat) (e : α), l[i]? = some e → f (i : Int) = if h e = 0 then some (.inl ((i + 1 : Nat) : Int)) else some (.inr (.inr (ret (h e)))))
    (he : f (l.length : Int) = some (.inr (.inl (l.length : Int)))) : (loopC f 0).bind (outK k) = if listF h l = 0 then k (l.length : Int) else some (ret (listF h l)) := by
  have : ∀ (t : List α) (i : Nat), l.drop i = t → i ≤ l.length → loopC f (i : Int) = if listF h t = 0 then some (.inl (l.length : Int)) else some (.inr (ret (listF h t))) := by
    intro t
    induction t with
    | nil =>
      intro i hd hi
      have := drop_nil_len hd hi
      subst this
      rw [loopC_eq, he]
      rfl
    | cons e t ih =>
      intro i hd hi
      obtain ⟨h1, h2, h3⟩ := drop_head hd
      rw [loopC_eq, hb i e h1]
      by_cases h0 : h e = 0
      · simp only [listF, h0, if_true]; exact ih (i + 1) h3 h2
      · simp only [listF, h0, if_false]
  have e0 : loopC f 0 = if listF h l = 0 then some (.inl (l.length : Int)) else some (.inr (ret (listF h l))) := this l 0 rfl (Nat.zero_le _)
  rw [e0]
  by_cases h0 : listF h l = 0
  · rw [if_pos h0, if_pos h0]; rfl
  · rw [if_neg h0, if_neg h0]; rfl
theorem listF_zero {α : Type} {h : α → Int} : ∀ {l : List α}, listF h l = 0 → ∀ e ∈ l, h e = 0
  | [], _, e, he => by cases he
  | x :: l, hl, e, he => by
    simp only [listF] at hl
    split at hl
    · rename_i h0
      rcases List.mem_cons.1 he with rfl | he
      · exact h0
      · exact listF_zero hl e he
    · rename_i h0; exact absurd hl h0

/-! ### Elements -/
def repF (l : List (List UInt8)) : Int := if l.length = 0 then 9 else if 20 < l.length then 2 else listF textF l
def elemF (e : Tapi_Element) : Int := if e.fRepeats.length = 0 then 9 else if 20 < e.fRepeats.length then 2 else listF repF e.fRepeats
theorem w_elem (e : Tapi_Element) : m_wire_elementFault e = some (elemF e) := by
  unfold m_wire_elementFault sims_G1_3_0; dsimp only
  unfold elemF
  by_cases h0 : e.fRepeats.length = 0
  · have c : decide ((e.fRepeats.length : Int) = 0) = true := decide_eq_true (by omega)
    simp only [c, cond_true, if_pos h0]
  · have d0 : decide ((e.fRepeats.length : Int) = 0) = false := decide_eq_false (by omega)
    by_cases h1 : 20 < e.fRepeats.length
    · have d1 : decide ((20 : Int) < (e.fRepeats.length : Int)) = true := decide_eq_true (by omega)
      simp only [d0, d1, cond_true, cond_false, h0, h1, if_true, if_false]
    · have d1 : decide ((20 : Int) < (e.fRepeats.length : Int)) = false := decide_eq_false (by omega)
      simp only [d0, d1, cond_false, h0, h1, if_false]
      refine (loop_fault e.fRepeats repF (fun a => a) _ (fun i l he => ?_) ?_).trans ?_
      · have hi := get_le he
        simp only [lt_dec hi, cond_true, getI_nat, he, Option.bind_some, wrapN i (by omega), repF]
        by_cases g0 : l.length = 0
        · have c0 : decide ((l.length : Int) = 0) = true := decide_eq_true (by omega)
          simp only [c0, cond_true, if_pos g0]; rfl
        · have c0 : decide ((l.length : Int) = 0) = false := decide_eq_false (by omega)
          by_cases g1 : 20 < l.length
          · have c1 : decide ((20 : Int) < (l.length : Int)) = true := decide_eq_true (by omega)
            simp only [c0, c1, cond_true, cond_false, g0, g1, if_true, if_false]; rfl
          · have c1 : decide ((20 : Int) < (l.length : Int)) = false := decide_eq_false (by omega)
            simp only [c0, c1, cond_false, g0, g1, if_false]
            refine (loop_fault l textF (fun a => .inr (.inr a)) _ (fun j t ht => ?_) ?_).trans ?_
            · have hj := get_le ht
              simp only [lt_dec hj, cond_true, getI_nat, he, ht, Option.bind_some, wrapN j (by omega), w_text]
              by_cases hz : textF t = 0 <;> simp [hz, inrO]
            · simp only [getI_nat, he, Option.bind_some, lt_dec_self, cond_false]; rfl
            · split <;> rfl
      · simp only [lt_dec_self, cond_false]; rfl
      · split <;> simp_all
theorem r_elem (e : Tapi_Element) : m_interchangeref2_checkElement e = some (elemF e) := by
  unfold m_interchangeref2_checkElement sims_G1_1_0; dsimp only
  unfold elemF
  by_cases h0 : e.fRepeats.length = 0
  · have c : decide ((e.fRepeats.length : Int) = 0) = true := decide_eq_true (by omega)
    simp only [c, cond_true, if_pos h0]
  · have d0 : decide ((e.fRepeats.length : Int) = 0) = false := decide_eq_false (by omega)
    by_cases h1 : 20 < e.fRepeats.length
    · have d1 : decide ((20 : Int) < (e.fRepeats.length : Int)) = true := decide_eq_true (by omega)
      simp only [d0, d1, cond_true, cond_false, h0, h1, if_true, if_false]
    · have d1 : decide ((20 : Int) < (e.fRepeats.length : Int)) = false := decide_eq_false (by omega)
      simp only [d0, d1, cond_false, h0, h1, if_false]
      refine (loop_fault e.fRepeats repF (fun a => a) _ (fun i l he => ?_) ?_).trans ?_
      · have hi := get_le he
        simp only [lt_dec hi, cond_true, getI_nat, he, Option.bind_some, wrapN i (by omega), repF]
        by_cases g0 : l.length = 0
        · have c0 : decide ((l.length : Int) = 0) = true := decide_eq_true (by omega)
          simp only [c0, cond_true, if_pos g0]; rfl
        · have c0 : decide ((l.length : Int) = 0) = false := decide_eq_false (by omega)
          by_cases g1 : 20 < l.length
          · have c1 : decide ((20 : Int) < (l.length : Int)) = true := decide_eq_true (by omega)
            simp only [c0, c1, cond_true, cond_false, g0, g1, if_true, if_false]; rfl
          · have c1 : decide ((20 : Int) < (l.length : Int)) = false := decide_eq_false (by omega)
            simp only [c0, c1, cond_false, g0, g1, if_false]
            refine (loop_fault l textF (fun a => .inr (.inr a)) _ (fun j t ht => ?_) ?_).trans ?_
            · have hj := get_le ht
              simp only [lt_dec hj, cond_true, getI_nat, he, ht, Option.bind_some, wrapN j (by omega), r_text]
              by_cases hz : textF t = 0 <;> simp [hz, inrO]
            · simp only [getI_nat, he, Option.bind_some, lt_dec_self, cond_false]; rfl
            · split <;> rfl
      · simp only [lt_dec_self, cond_false]; rfl
      · split <;> simp_all
/-! ### Tags -/
theorem dropWhile_nil {p : UInt8 → Bool} : ∀ {l : List UInt8}, l.dropWhile p = [] ↔ ∀ x ∈ l, p x = true
  | [] => by simp
  | a :: l => by
    rw [List.dropWhile_cons]
    by_cases h : p a = true
    · simp [h, dropWhile_nil (l := l)]
    · simp [h]
theorem dropWhile_head {p : UInt8 → Bool} {a : UInt8} {r : List UInt8} : ∀ {l : List UInt8}, l.dropWhile p = a :: r → p a = false
  | [], h => by simp at h
  | b :: l, h => by
    rw [List.dropWhile_cons] at h
    by_cases hp : p b = true
    · simp only [hp, if_true] at h; exact dropWhile_head h
    · simp only [hp] at h
      simp at h; rw [← h.1]; simpa using hp
theorem trim_nil (l cs : List UInt8) : Lib.trimS l cs = [] ↔ ∀ x ∈ l, cs.contains x = true := by
  unfold Lib.trimS Lib.trimLeftS Lib.trimRightS
  constructor
  · intro h
    have h1 : List.dropWhile (fun x => cs.contains x) l.reverse = [] := by
      cases hr : List.dropWhile (fun x => cs.contains x) l.reverse with
      | nil => rfl
      | cons a r =>
        exfalso
        have h2 := dropWhile_head hr
        rw [hr, dropWhile_nil] at h
        have h3 := h a (by simp)
        rw [h2] at h3; cases h3
    rw [dropWhile_nil] at h1
    intro x hx
    exact h1 x (by simpa using hx)
  · intro h
    have h1 : List.dropWhile (fun x => cs.contains x) l.reverse = [] := dropWhile_nil.2 fun x hx => h x (by simpa using hx)
    rw [h1]; rfl
def letB (b : UInt8) : Bool := decide (65 ≤ (b.toNat : Int)) && decide ((b.toNat : Int) ≤ 90)
def tagB (b : UInt8) : Bool := letB b || !(decide ((b.toNat : Int) < 48) || decide (57 < (b.toNat : Int)))
theorem tagB_all : (List.range 256).all (fun n => tagSet.contains (UInt8.ofNat n) == tagB (UInt8.ofNat n)) = true := by kernel_rfl
theorem tagB_eq (b : UInt8) : tagSet.contains b = tagB b := by
  have := List.all_eq_true.1 tagB_all b.toNat (List.mem_range.2 b.toNat_lt)
  have hb : UInt8.ofNat b.toNat = b := by simp
  rw [hb] at this
  simpa using this
def upper : List UInt8 := [65, 66, 67, 68, 69, 70, 71, 72, 73, 74, 75, 76, 77, 78, 79, 80, 81, 82, 83, 84, 85, 86, 87, 88, 89, 90]
theorem letB_all : (List.range 256).all (fun n => decide (0 ≤ Lib.indexByte upper (UInt8.ofNat n)) == letB (UInt8.ofNat n)) = true := by kernel_rfl
theorem letB_eq (b : UInt8) : decide (0 ≤ Lib.indexByte upper b) = letB b := by
  have := List.all_eq_true.1 letB_all b.toNat (List.mem_range.2 b.toNat_lt)
  have hb : UInt8.ofNat b.toNat = b := by simp
  rw [hb] at this
  simpa using this
theorem trim_tag (l : List UInt8) : decide (Lib.trimS l tagSet = []) = l.all tagB := by
  rw [Bool.eq_iff_iff, decide_eq_true_eq, trim_nil, List.all_eq_true]
  simp only [tagB_eq]
/-- A tag. -/
def tagF : List UInt8 → Bool
  | [] => false
  | b :: l => decide (1 ≤ l.length) && decide (l.length ≤ 5) && letB b && l.all tagB
theorem w_tag (l : List UInt8) (hl : l.length ≤ 9223372036854775807) : m_kit_IsTag l = some (tagF l) := by
  unfold m_kit_IsTag sims_G1_1_0; dsimp only
  cases l with
  | nil => rfl
  | cons b l =>
    have hg : getI (b :: l) 0 = some b := rfl
    have hi : m_strings_IndexByte upper b = some (Lib.indexByte upper b) := rfl
    have hu : ([65, 66, 67, 68, 69, 70, 71, 72, 73, 74, 75, 76, 77, 78, 79, 80, 81, 82, 83, 84, 85, 86, 87, 88, 89, 90] : List UInt8) = upper := rfl
    simp only [isTagPart_eq (b :: l) hl, trim_tag, hg, hu, hi, Option.bind_some, andO_some, letB_eq, tagF]
    have h1 : decide ((2 : Int) ≤ ((b :: l).length : Int)) = decide (1 ≤ l.length) := by simp only [List.length_cons]; congr 1; apply propext; omega
    have h2 : decide (((b :: l).length : Int) ≤ 6) = decide (l.length ≤ 5) := by simp only [List.length_cons]; congr 1; apply propext; omega
    rw [h1, h2]
    cases hb : letB b with
    | false => simp
    | true => simp [tagB, hb]
def tagI (i : Nat) (b : UInt8) : Bool := letB b || (decide (i ≠ 0) && tagB b)
theorem r_begins (l : List UInt8) (hl : l.length ≤ 9223372036854775807) : m_interchangeref2_beginsTag l = some ((match l with | [] => true | b :: l => letB b && l.all tagB) && decide (l.length ≤ 6)) := by
  unfold m_interchangeref2_beginsTag sims_G1_0_0; dsimp only
  have key := loop_runI (f := fun s => bif decide (s < (l.length : Int)) then (getI l s).bind fun e => (andO (decide (65 ≤ (e.toNat : Int))) ((getI l s).bind fun e => some (decide ((e.toNat : Int) ≤ 90)))).bind fun v => (andO (!v) ((orO (decide (s = 0)) ((getI l s).bind fun e => some (decide ((e.toNat : Int) < 48)))).bind fun v => (orO v ((getI l s).bind fun e => some (decide (57 < (e.toNat : Int))))).bind fun v => some v)).bind fun v => bif v then inrO (inrO (some false)) else some (Sum.inl (IntKind.i64.wrap (s + 1))) else inrO (some (Sum.inl s)))
    l (fun i (_ : Unit) => (i : Int)) (fun i _ e => if tagI i e = true then some (.inl ()) else some (.inr (.inr false))) (fun _ => some (Sum.inl (l.length : Int))) (fun i e s he => ?_) (fun s => ?_) ()
  · rw [show ((0 : Nat) : Int) = 0 from rfl] at key
    rw [key]
    have h2 : ∀ (t : List UInt8) (i : Nat), 0 < i → runI (fun i (_ : Unit) e => if tagI i e = true then some (.inl ()) else some (.inr (.inr false))) (fun _ => some (Sum.inl (l.length : Int))) t i () = if t.all tagB = true then some (Sum.inl (l.length : Int)) else some (.inr false) := by
      intro t
      induction t with
      | nil => intro i _; rfl
      | cons b t ih =>
        intro i hi
        simp only [runI]
        have : tagI i b = tagB b := by
          unfold tagI
          rw [decide_eq_true (show i ≠ 0 by omega), Bool.true_and]
          unfold tagB
          cases letB b <;> simp
        rw [this]
        cases hb : tagB b with
        | true => simp only [if_true, ih (i + 1) (by omega), List.all_cons, hb, Bool.true_and]
        | false => simp [hb]
    cases l with
    | nil => rfl
    | cons b l =>
      simp only [runI]
      have h3 : tagI 0 b = letB b := by unfold tagI; cases letB b <;> simp
      have h4 : decide (((b :: l).length : Int) ≤ 6) = decide ((b :: l).length ≤ 6) := by congr 1; apply propext; omega
      rw [h3]
      cases hb : letB b with
      | false => simp [outK, hb]
      | true =>
        simp only [if_true]
        rw [h2 l 1 (by omega)]
        cases hl : l.all tagB with
        | true => simp [outK, hb, h4]; omega
        | false => simp [outK, hb]
  · have hi := get_le he
    simp only [lt_dec hi, cond_true, getI_nat, he, Option.bind_some, andO_some, orO_some, wrapN i (by omega)]
    have h0 : decide ((i : Int) = 0) = decide (i = 0) := by congr 1; apply propext; omega
    have h1 : (!(decide (65 ≤ (e.toNat : Int)) && decide ((e.toNat : Int) ≤ 90)) && (decide ((i : Int) = 0) || decide ((e.toNat : Int) < 48) || decide (57 < (e.toNat : Int)))) = !tagI i e := by
      rw [h0]
      unfold tagI tagB letB
      cases decide (65 ≤ (e.toNat : Int)) <;> cases decide ((e.toNat : Int) ≤ 90) <;> by_cases hi0 : i = 0 <;> simp [hi0]
    rw [h1]
    cases tagI i e <;> rfl
  · simp only [lt_dec_self, cond_false]; rfl
theorem r_tag (l : List UInt8) (hl : l.length ≤ 9223372036854775807) : m_interchangeref2_IsTag l = some (tagF l) := by
  unfold m_interchangeref2_IsTag sims_G1_1_0; dsimp only
  simp only [r_begins l hl, Option.bind_some, andO_some]
  cases l with
  | nil => rfl
  | cons b l =>
    have h1 : decide ((2 : Int) ≤ ((b :: l).length : Int)) = decide (1 ≤ l.length) := by simp only [List.length_cons]; congr 1; apply propext; omega
    have h2 : decide ((b :: l).length ≤ 6) = decide (l.length ≤ 5) := by simp only [List.length_cons]; congr 1; apply propext; omega
    rw [h1, h2]
    simp only [tagF]
    cases letB b <;> cases l.all tagB <;> simp
/-! ### Segments -/
def segF (s : Tapi_Segment) : Int := if tagF s.fTag = false then 5 else if 50 < s.fElements.length then 2 else listF elemF s.fElements
def segsF (l : List Tapi_Segment) : Int := if 2000 < l.length then 2 else listF segF l
/-- The strings that any machine has. -/
def TagsShort (l : List Tapi_Segment) : Prop := ∀ s ∈ l, s.fTag.length ≤ 9223372036854775807
theorem r_one (s : Tapi_Segment) (hs : s.fTag.length ≤ 9223372036854775807) : m_interchangeref2_CheckOne s = some (segF s) := by
  unfold m_interchangeref2_CheckOne sims_G1_2_0; dsimp only
  unfold segF
  rw [r_tag s.fTag hs]
  simp only [Option.bind_some]
  cases ht : tagF s.fTag with
  | false => simp
  | true =>
    simp only [Bool.not_true, cond_false, Bool.true_eq_false, if_false]
    by_cases h1 : 50 < s.fElements.length
    · have d1 : decide ((50 : Int) < (s.fElements.length : Int)) = true := decide_eq_true (by omega)
      simp only [d1, cond_true, h1, if_true]
    · have d1 : decide ((50 : Int) < (s.fElements.length : Int)) = false := decide_eq_false (by omega)
      simp only [d1, cond_false, h1, if_false]
      refine (loop_fault s.fElements elemF (fun a => a) _ (fun i e he => ?_) ?_).trans ?_
      · have hi := get_le he
        simp only [lt_dec hi, cond_true, getI_nat, he, Option.bind_some, wrapN i (by omega), r_elem]
        by_cases hz : elemF e = 0 <;> simp [hz, inrO]
      · simp only [lt_dec_self, cond_false]; rfl
      · split <;> simp_all
theorem r_segs (l : List Tapi_Segment) (hs : TagsShort l) : m_interchangeref2_CheckSegments l = some (segsF l) := by
  unfold m_interchangeref2_CheckSegments sims_G1_3_0; dsimp only
  unfold segsF
  by_cases h1 : 2000 < l.length
  · have d1 : decide ((2000 : Int) < (l.length : Int)) = true := decide_eq_true (by omega)
    simp only [d1, cond_true, h1, if_true]
  · have d1 : decide ((2000 : Int) < (l.length : Int)) = false := decide_eq_false (by omega)
    simp only [d1, cond_false, h1, if_false]
    refine (loop_fault l segF (fun a => a) _ (fun i e he => ?_) ?_).trans ?_
    · have hi := get_le he
      simp only [lt_dec hi, cond_true, getI_nat, he, Option.bind_some, wrapN i (by omega), r_one e (hs e (List.mem_of_getElem? he))]
      by_cases hz : segF e = 0 <;> simp [hz, inrO]
    · simp only [lt_dec_self, cond_false]; rfl
    · split <;> simp_all
theorem w_segs (l : List Tapi_Segment) (hs : TagsShort l) : m_wire_CheckSegments l = some (segsF l) := by
  unfold m_wire_CheckSegments sims_G1_4_0; dsimp only
  unfold segsF
  by_cases h1 : 2000 < l.length
  · have d1 : decide ((2000 : Int) < (l.length : Int)) = true := decide_eq_true (by omega)
    simp only [d1, cond_true, h1, if_true]
  · have d1 : decide ((2000 : Int) < (l.length : Int)) = false := decide_eq_false (by omega)
    simp only [d1, cond_false, h1, if_false]
    refine (loop_fault l segF (fun a => a) _ (fun i s hes => ?_) ?_).trans ?_
    · have hi := get_le hes
      have hst := hs s (List.mem_of_getElem? hes)
      simp only [lt_dec hi, cond_true, getI_nat, hes, Option.bind_some, wrapN i (by omega), w_tag s.fTag (by omega), segF]
      by_cases ht : tagF s.fTag = false
      · simp [ht, inrO]
      · replace ht : tagF s.fTag = true := by simpa using ht
        simp only [ht, Bool.not_true, cond_false, Bool.true_eq_false, if_false]
        by_cases h1 : 50 < s.fElements.length
        · have d1 : decide ((50 : Int) < (s.fElements.length : Int)) = true := decide_eq_true (by omega)
          simp only [d1, cond_true, h1, if_true]; rfl
        · have d1 : decide ((50 : Int) < (s.fElements.length : Int)) = false := decide_eq_false (by omega)
          simp only [d1, cond_false, h1, if_false]
          refine (loop_fault s.fElements elemF (fun a => .inr (.inr a)) _ (fun i e he => ?_) ?_).trans ?_
          · have hi := get_le he
            simp only [lt_dec hi, cond_true, getI_nat, he, Option.bind_some, wrapN i (by omega), w_elem]
            by_cases hz : elemF e = 0 <;> simp [hz, inrO]
          · simp only [lt_dec_self, cond_false]; rfl
          · split <;> rfl
    · simp only [lt_dec_self, cond_false]; rfl
    · split <;> simp_all
end Go.Proofs.YthcfbglbjipdaaaGreatDoor

/- Imports alone. -/


/-
  Plain laws: numbers, references, and the checks of a book.
-/
namespace Go.Proofs.YthcfbglbjipdaaaGreatDoor
set_option linter.unusedSimpArgs false
set_option linter.unusedVariables false
open Go.RowKit

def outside (n lo hi : Int) : Bool := decide (n < lo) || decide (hi < n)
theorem outside_eq (n lo hi : Int) : m_kit_Outside n lo hi = some (outside n lo hi) := by
  unfold m_kit_Outside sims_G3_0_0; dsimp only
  simp only [orO_some, Option.bind_some, outside]
/-! ### References -/
def refSet : List UInt8 := [65, 66, 67, 68, 69, 70, 71, 72, 73, 74, 75, 76, 77, 78, 79, 80, 81, 82, 83, 84, 85, 86, 87, 88, 89, 90, 48, 49, 50, 51, 52, 53, 54, 55, 56, 57, 45]
theorem dropWhile_nilP {p : UInt8 → Bool} : ∀ {l : List UInt8}, l.dropWhile p = [] ↔ ∀ x ∈ l, p x = true
  | [] => by simp
  | a :: l => by
    rw [List.dropWhile_cons]
    by_cases h : p a = true
    · simp [h, dropWhile_nilP (l := l)]
    · simp [h]
theorem dropWhile_headP {p : UInt8 → Bool} {a : UInt8} {r : List UInt8} : ∀ {l : List UInt8}, l.dropWhile p = a :: r → p a = false
  | [], h => by simp at h
  | b :: l, h => by
    rw [List.dropWhile_cons] at h
    by_cases hp : p b = true
    · simp only [hp, if_true] at h; exact dropWhile_headP h
    · simp only [hp] at h
      simp at h; rw [← h.1]; simpa using hp
theorem trim_nilP (l cs : List UInt8) : Lib.trimS l cs = [] ↔ ∀ x ∈ l, cs.contains x = true := by
  unfold Lib.trimS Lib.trimLeftS Lib.trimRightS
  constructor
  · intro h
    have h1 : List.dropWhile (fun x => cs.contains x) l.reverse = [] := by
      cases hr : List.dropWhile (fun x => cs.contains x) l.reverse with
      | nil => rfl
      | cons a r =>
        exfalso
        have h2 := dropWhile_headP hr
        rw [hr, dropWhile_nilP] at h
        have h3 := h a (by simp)
        rw [h2] at h3; cases h3
    rw [dropWhile_nilP] at h1
    intro x hx
    exact h1 x (by simpa using hx)
  · intro h
    have h1 : List.dropWhile (fun x => cs.contains x) l.reverse = [] := dropWhile_nilP.2 fun x hx => h x (by simpa using hx)
    rw [h1]; rfl
def refByte (b : UInt8) : Bool := refSet.contains b
def isRef (s : List UInt8) : Bool := decide (1 ≤ s.length ∧ s.length ≤ 14) && s.all refByte
theorem trim_all (s : List UInt8) : decide (Lib.trimS s refSet = []) = s.all refByte := by
  rw [Bool.eq_iff_iff, decide_eq_true_eq, trim_nilP, List.all_eq_true]; rfl
theorem refByte_eq (b : UInt8) : refByte b = decide ((65 ≤ b.toNat ∧ b.toNat ≤ 90) ∨ (48 ≤ b.toNat ∧ b.toNat ≤ 57) ∨ b.toNat = 45) := by
  have h : ∀ n, n < 256 → refByte (UInt8.ofNat n) = decide ((65 ≤ n ∧ n ≤ 90) ∨ (48 ≤ n ∧ n ≤ 57) ∨ n = 45) := by decide +kernel
  have := h b.toNat b.toNat_lt
  simpa using this
theorem trim_eq (s : List UInt8) (hs : s.length ≤ 9223372036854775807) : m_strings_Trim s refSet = some (Lib.trimS s refSet) := by
  unfold m_strings_Trim
  rw [if_pos ⟨hs, by decide, by decide⟩]
theorem isRef_eq (s : List UInt8) (hs : s.length ≤ 9223372036854775807) : m_kit_IsRef s = some (isRef s) := by
  have ht := trim_eq s hs
  have ha := trim_all s
  unfold refSet at ht ha
  unfold m_kit_IsRef sims_G3_0_0; dsimp only
  simp only [ht, Option.bind_some, ha, andO_some]
  congr 1; unfold isRef
  rw [Bool.eq_iff_iff]; simp; omega
theorem all_take_succ {p : UInt8 → Bool} {l : List UInt8} {i : Nat} {b : UInt8} (hb : l[i]? = some b) (h : (l.take i).all p = true) (hp : p b = true) : (l.take (i + 1)).all p = true := by
  rw [List.take_add_one, hb]; simp only [Option.toList_some, List.all_append, h, List.all_cons, hp]; rfl
theorem all_not {p : UInt8 → Bool} {l : List UInt8} {i : Nat} {b : UInt8} (hb : l[i]? = some b) (hp : p b = false) : l.all p = false := by
  rw [List.all_eq_false]; exact ⟨b, List.mem_of_getElem? hb, by simp [hp]⟩
theorem isReference_eq (s : List UInt8) (hs : s.length ≤ 9223372036854775807) : m_interchangeref2_IsReference s = some (isRef s) := by
  unfold m_interchangeref2_IsReference sims_G3_0_0; dsimp only
  generalize hf : (fun s_1 : Int => _) = f
  obtain ⟨a, ha, hp⟩ := loopC_inv (f := f) (fun i => ∃ k : Nat, i = k ∧ k ≤ s.length ∧ (s.take k).all refByte = true) (fun i => (s.length - i).toNat)
    (fun o => match o with | .inl _ => s.all refByte = true | .inr b => b = false ∧ s.all refByte = false) (s := 0) (by
      rintro _ ⟨k, rfl, hk, hall⟩
      subst hf
      by_cases hlt : k < s.length
      · obtain ⟨c, hc⟩ : ∃ c, s[k]? = some c := ⟨_, List.getElem?_eq_getElem hlt⟩
        have hb := refByte_eq c
        have hd : decide ((k : Int) < s.length) = true := by simpa using hlt
        simp only [hd, cond_true, getI_nat, hc, Option.bind_some, andO_some, orO_some]
        cases hr : refByte c with
        | true =>
          refine .inl ⟨((k + 1 : Nat) : Int), ?_, ⟨k + 1, rfl, hlt, all_take_succ hc hall hr⟩, by omega⟩
          rw [hr] at hb
          rw [wrapN k (by omega)]
          have : (!(decide (65 ≤ (c.toNat : Int)) && decide ((c.toNat : Int) ≤ 90) || decide (48 ≤ (c.toNat : Int)) && decide ((c.toNat : Int) ≤ 57) || decide ((c.toNat : Int) = 45))) = false := by
            simp at hb ⊢; omega
          rw [this]; rfl
        | false =>
          refine .inr ⟨.inr false, ?_, rfl, all_not hc hr⟩
          rw [hr] at hb
          have : (!(decide (65 ≤ (c.toNat : Int)) && decide ((c.toNat : Int) ≤ 90) || decide (48 ≤ (c.toNat : Int)) && decide ((c.toNat : Int) ≤ 57) || decide ((c.toNat : Int) = 45))) = true := by
            simp at hb ⊢; omega
          rw [this]; rfl
      · have hd : decide ((k : Int) < s.length) = false := by simpa using hlt
        refine .inr ⟨.inl k, ?_, ?_⟩
        · simp only [hd, cond_false]; rfl
        · rw [List.take_of_length_le (by omega)] at hall; exact hall) ⟨0, rfl, by omega, by simp⟩
  rw [ha]
  cases a with
  | inl i =>
    simp only [Option.bind_some, outK, andO_some, isRef, hp, Bool.and_true]
    congr 1; rw [Bool.eq_iff_iff]; cases s <;> simp <;> omega
  | inr b => obtain ⟨rfl, h⟩ := hp; simp only [Option.bind_some, outK, isRef, h, Bool.and_false]
end Go.Proofs.YthcfbglbjipdaaaGreatDoor

/-
  Plain laws: the checks of a book.
-/
namespace Go.Proofs.YthcfbglbjipdaaaGreatDoor
set_option linter.unusedSimpArgs false
set_option linter.unusedVariables false
open Go.RowKit

def firstF (f : Nat → Int) : Nat → Nat → Int
  | _, 0 => 0
  | i, n + 1 => if f i ≠ 0 then f i else firstF f (i + 1) n
theorem firstF_skip {f : Nat → Int} : ∀ (i n k : Nat), k ≤ n → (∀ j, i ≤ j → j < i + k → f j = 0) → firstF f i n = firstF f (i + k) (n - k)
  | i, n, 0, _, _ => by simp
  | i, 0, k + 1, h, _ => by omega
  | i, n + 1, k + 1, h, hz => by
    have h1 := hz i (by omega) (by omega)
    simp only [firstF, h1, ne_eq, not_true_eq_false, if_false]
    rw [firstF_skip (i + 1) n k (by omega) (fun j hj hj' => hz j (by omega) (by omega))]
    congr 1 <;> omega
theorem sliceI_take {α : Type} (l : List α) (n : Nat) (h : n ≤ l.length) : sliceI l 0 (n : Int) = some (l.take n) := by
  unfold sliceI
  rw [if_pos (by omega)]; simp
end Go.Proofs.YthcfbglbjipdaaaGreatDoor

/-
  Plain laws: names, and loops that end at the first fault.
-/
namespace Go.Proofs.YthcfbglbjipdaaaGreatDoor
set_option linter.unusedSimpArgs false
set_option linter.unusedVariables false
open Go.RowKit

abbrev MX : Nat := 9223372036854775807
/-! ### Loops that end at the first fault -/
theorem loop_fS {S : Type} (st : Nat → S) {n : Nat} {g : Nat → Int} {f : S → Option (S ⊕ (S ⊕ Int))} (hf : ∀ i, i < n → f (st i) = if g i = 0 then some (.inl (st (i + 1))) else some (.inr (.inr (g i))))
    (he : f (st n) = some (.inr (.inl (st n)))) (K : S → Option Int) : (loopC f (st 0)).bind (outK K) = if firstF g 0 n = 0 then K (st n) else some (firstF g 0 n) := by
  have h := loop_first (f := f) (z := .inl (st n)) st n (fun i => if g i = 0 then none else some (.inr (g i))) (fun i hi hg => by
    rw [hf i hi]
    by_cases hz : g i = 0
    · rw [if_pos hz]
    · simp only [hz, if_false] at hg; cases hg) (fun i a hi hg => by
    rw [hf i hi]
    by_cases hz : g i = 0
    · simp only [hz, if_true] at hg; cases hg
    · simp only [hz, if_false, Option.some.injEq] at hg; rw [if_neg hz, hg]) he
  rw [h]
  rcases firstS_cases (fun i => if g i = 0 then (none : Option (S ⊕ Int)) else some (.inr (g i))) n with ⟨h1, h2⟩ | ⟨k, a, h1, h2, h3, h4⟩
  · have : firstF g 0 n = 0 := by
      rw [firstF_skip 0 n n (by omega) (fun j _ hj => by
        have := h2 j (by omega)
        by_cases hz : g j = 0
        · exact hz
        · simp only [hz, if_false] at this; cases this)]
      simp [firstF]
    rw [h1, if_pos this]; rfl
  · have hz : g k ≠ 0 := by intro hz; simp only [hz, if_true] at h3; cases h3
    have : firstF g 0 n = g k := by
      rw [firstF_skip 0 n k (by omega) (fun j _ hj => by
        have := h2 j (by omega)
        by_cases hz : g j = 0
        · exact hz
        · simp only [hz, if_false] at this; cases this)]
      obtain ⟨m, hm⟩ : ∃ m, n - k = m + 1 := ⟨n - k - 1, by omega⟩
      rw [hm, Nat.zero_add]
      simp only [firstF, hz, ne_eq, not_false_eq_true, if_true]
    rw [h4, this, if_neg hz]
    simp only [hz, if_false, Option.some.injEq] at h3
    rw [← h3]; rfl
def anyAt {α : Type} (l : List α) (q : α → Bool) (c : Int) (k : Nat) : Int := match l[k]? with | some o => if q o = true then c else 0 | none => 0
theorem firstF_any {α : Type} (l : List α) (q : α → Bool) (c : Int) (hc : c ≠ 0) (i : Nat) (hi : i ≤ l.length) :
    firstF (anyAt l q c) 0 i = if (l.take i).any q = true then c else 0 := by
  have : ∀ d k, k + d = i → firstF (anyAt l q c) k d = if ((l.take i).drop k).any q = true then c else 0 := by
    intro d
    induction d with
    | zero =>
      intro k hk
      have : (l.take i).drop k = [] := List.drop_eq_nil_of_le (by rw [List.length_take]; omega)
      rw [this]; simp [firstF]
    | succ d ih =>
      intro k hk
      obtain ⟨e, he⟩ := get_lt (l := l) (i := k) (by omega)
      have ht : (l.take i)[k]? = some e := by rw [List.getElem?_take_of_lt (by omega), he]
      have hd : (l.take i).drop k = e :: (l.take i).drop (k + 1) := by
        have hlt := get_le ht
        rw [List.drop_eq_getElem_cons hlt]
        congr 1
        rw [List.getElem?_eq_getElem hlt] at ht; simpa using ht
      simp only [firstF, anyAt, he]
      rw [hd, List.any_cons, ih (k + 1) (by omega)]
      cases hq : q e <;> simp [hc]
  have := this i 0 (by omega)
  simpa using this
/-! ### Names -/
def lowB (b : UInt8) : Bool := decide (97 ≤ (b.toNat : Int)) && decide ((b.toNat : Int) ≤ 122)
def nameB (b : UInt8) : Bool := lowB b || (decide ((b.toNat : Int) = 45) || (decide (48 ≤ (b.toNat : Int)) && decide ((b.toNat : Int) ≤ 57)))
def nameSet : List UInt8 := [97, 98, 99, 100, 101, 102, 103, 104, 105, 106, 107, 108, 109, 110, 111, 112, 113, 114, 115, 116, 117, 118, 119, 120, 121, 122, 48, 49, 50, 51, 52, 53, 54, 55, 56, 57, 45]
theorem nameB_all : (List.range 256).all (fun n => nameSet.contains (UInt8.ofNat n) == nameB (UInt8.ofNat n)) = true := by decide +kernel
theorem nameB_eq (b : UInt8) : nameSet.contains b = nameB b := by
  have := List.all_eq_true.1 nameB_all b.toNat (List.mem_range.2 b.toNat_lt)
  have hb : UInt8.ofNat b.toNat = b := by simp
  rw [hb] at this
  simpa using this
theorem trim_name (l : List UInt8) : decide (Lib.trimS l nameSet = []) = l.all nameB := by
  rw [Bool.eq_iff_iff, decide_eq_true_eq, trim_nil, List.all_eq_true]
  simp only [nameB_eq]
/-- A name. -/
def nameF : List UInt8 → Bool
  | [] => false
  | b :: l => decide (l.length ≤ 39) && lowB b && l.all nameB
theorem w_name (l : List UInt8) (hl : l.length ≤ MX) : m_kit_IsName l = some (nameF l) := by
  have ht : m_strings_Trim l nameSet = some (Lib.trimS l nameSet) := by
    unfold m_strings_Trim
    rw [if_pos ⟨hl, by decide, by decide⟩]
  have hu : ([97, 98, 99, 100, 101, 102, 103, 104, 105, 106, 107, 108, 109, 110, 111, 112, 113, 114, 115, 116, 117, 118, 119, 120, 121, 122, 48, 49, 50, 51, 52, 53, 54, 55, 56, 57, 45] : List UInt8) = nameSet := rfl
  unfold m_kit_IsName sims_G3_0_0; dsimp only
  rw [hu]
  cases l with
  | nil => rfl
  | cons b l =>
    have hg : getI (b :: l) 0 = some b := rfl
    simp only [hg, Option.bind_some, orO_some, ht, trim_name, nameF]
    have h1 : decide (((b :: l).length : Int) < 1) = false := by simp only [List.length_cons]; apply decide_eq_false; omega
    have h2 : decide (40 < ((b :: l).length : Int)) = !decide (l.length ≤ 39) := by simp only [List.length_cons]; rw [Bool.eq_iff_iff]; simp <;> omega
    have h3 : (decide ((b.toNat : Int) < 97) || decide (122 < (b.toNat : Int))) = !lowB b := by unfold lowB; rw [Bool.eq_iff_iff]; simp
    rw [h1, h2, Bool.false_or, Bool.or_assoc, h3]
    cases hb : lowB b with
    | false => simp
    | true => cases decide (l.length ≤ 39) <;> simp [nameB, hb]
def nameI (i : Nat) (b : UInt8) : Bool := lowB b || (decide (i ≠ 0) && nameB b)
theorem r_name (l : List UInt8) (hl : l.length ≤ MX) : m_interchangeref2_IsName l = some (nameF l) := by
  unfold MX at hl
  unfold m_interchangeref2_IsName sims_G3_0_1; dsimp only
  generalize hf : (fun s : Int => _) = f
  have key := loop_runI (f := f) l (fun i (_ : Unit) => (i : Int)) (fun i _ e => if nameI i e = true then some (.inl ()) else some (.inr (.inr false))) (fun _ => some (Sum.inl (l.length : Int))) (fun i e s he => by
    subst hf
    have hi := get_le he
    simp only [lt_dec hi, cond_true, getI_nat, he, Option.bind_some, andO_some, orO_some, wrapN i (by omega)]
    have h0 : decide ((i : Int) = 0) = decide (i = 0) := by congr 1; apply propext; omega
    have h1 : (!(decide (97 ≤ (e.toNat : Int)) && decide ((e.toNat : Int) ≤ 122)) && (decide ((i : Int) = 0) || (!decide ((e.toNat : Int) = 45) && !(decide (48 ≤ (e.toNat : Int)) && decide ((e.toNat : Int) ≤ 57))))) = !nameI i e := by
      rw [h0]
      unfold nameI nameB lowB
      cases decide (97 ≤ (e.toNat : Int)) <;> cases decide ((e.toNat : Int) ≤ 122) <;> by_cases hi0 : i = 0 <;> simp [hi0]
    rw [h1]
    cases nameI i e <;> rfl) (fun s => by
    subst hf
    simp only [lt_dec_self, cond_false]; rfl) ()
  rw [show ((0 : Nat) : Int) = 0 from rfl] at key
  rw [key]
  have h2 : ∀ (t : List UInt8) (i : Nat), 0 < i → runI (fun i (_ : Unit) e => if nameI i e = true then some (.inl ()) else some (.inr (.inr false))) (fun _ => some (Sum.inl (l.length : Int))) t i () = if t.all nameB = true then some (.inl (l.length : Int)) else some (.inr false) := by
    intro t
    induction t with
    | nil => intro i _; rfl
    | cons b t ih =>
      intro i hi
      simp only [runI]
      have : nameI i b = nameB b := by
        unfold nameI
        rw [decide_eq_true (show i ≠ 0 by omega), Bool.true_and]
        unfold nameB
        cases lowB b <;> simp
      rw [this]
      cases hb : nameB b with
      | true => simp only [if_true, ih (i + 1) (by omega), List.all_cons, hb, Bool.true_and]
      | false => simp [hb]
  cases l with
  | nil => rfl
  | cons b l =>
    simp only [runI]
    have h3 : nameI 0 b = lowB b := by unfold nameI; cases lowB b <;> simp
    have h4 : decide (((b :: l).length : Int) ≤ 40) = decide (l.length ≤ 39) := by simp only [List.length_cons]; rw [Bool.eq_iff_iff]; simp; omega
    rw [h3]
    cases hb : lowB b with
    | false => simp [outK, hb, nameF]
    | true =>
      simp only [if_true]
      rw [h2 l 1 (by omega)]
      cases hl : l.all nameB with
      | true => simp [outK, hb, hl, nameF, andO_some]; try omega
      | false => simp [outK, hb, hl, nameF]
end Go.Proofs.YthcfbglbjipdaaaGreatDoor

/-
  Plain laws of the replies: CheckReply on both sides.
-/
namespace Go.Proofs.YthcfbglbjipdaaaGreatDoor
set_option linter.unusedSimpArgs false
set_option linter.unusedVariables false
open Go.RowKit

/-! ### What any machine has -/
/-! ### Is one in a list? -/
/-! ### Together -/
end Go.Proofs.YthcfbglbjipdaaaGreatDoor

/-
  Plain laws of the replies: the faults.
-/
namespace Go.Proofs.YthcfbglbjipdaaaGreatDoor
set_option linter.unusedSimpArgs false
set_option linter.unusedVariables false
open Go.RowKit

/-! ### Flaws -/
theorem big_dec (n k : Nat) : decide ((k : Int) < (n : Int)) = decide (k < n) := by congr 1; apply propext; omega
/-! ### Messages -/
end Go.Proofs.YthcfbglbjipdaaaGreatDoor

/-
  Plain laws of the replies: messages of the reference, groups, CheckReply.
-/
namespace Go.Proofs.YthcfbglbjipdaaaGreatDoor
set_option linter.unusedSimpArgs false
set_option linter.unusedVariables false
open Go.RowKit

/-- The loop that looks for one before. -/
theorem before_eq {α : Type} (l : List α) (i : Nat) (hi : i ≤ l.length) (hl : l.length ≤ MX) (q : α → Bool) {f : Int → Option (Int ⊕ (Int ⊕ Int))} (K : Int → Option Int)
    (hf : ∀ k o, k < i → l[k]? = some o → f (k : Int) = bif q o then some (.inr (.inr 7)) else some (.inl ((k + 1 : Nat) : Int))) (he : f (i : Int) = some (.inr (.inl (i : Int)))) :
    (loopC f 0).bind (outK K) = bif (l.take i).any q then some 7 else K (i : Int) := by
  refine (loop_fS (fun i : Nat => (i : Int)) (n := i) (g := anyAt l q 7) (fun k hk => ?_) he K).trans ?_
  · obtain ⟨o, ho⟩ := get_lt (l := l) (i := k) (by omega)
    rw [hf k o hk ho]
    simp only [anyAt, ho]
    cases q o <;> rfl
  · rw [firstF_any l q 7 (by decide) i hi]
    cases (l.take i).any q <;> rfl
/-! ### Groups -/
/-! ### Replies -/
end Go.Proofs.YthcfbglbjipdaaaGreatDoor

/-
  Segments: when they are right; sameness.
-/
namespace Go.Proofs.YthcfbglbjipdaaaGreatDoor
set_option linter.unusedSimpArgs false
set_option linter.unusedVariables false
open Go.RowKit

theorem listF_all {α : Type} {h : α → Int} : ∀ {l : List α}, (∀ e ∈ l, h e = 0) → listF h l = 0
  | [], _ => rfl
  | e :: l, hl => by
    unfold listF
    rw [if_pos (hl e (by simp))]
    exact listF_all fun e he => hl e (by simp [he])
theorem repF_iff {l : List (List UInt8)} : repF l = 0 ↔ (1 ≤ l.length ∧ l.length ≤ 20 ∧ ∀ t ∈ l, textF t = 0) := by
  unfold repF
  by_cases h1 : l.length = 0
  · simp [h1]
  · by_cases h2 : 20 < l.length
    · simp [h1, h2]; omega
    · rw [if_neg h1, if_neg h2]
      exact ⟨fun h => ⟨by omega, by omega, listF_zero h⟩, fun h => listF_all h.2.2⟩
theorem elemF_iff {e : Tapi_Element} : elemF e = 0 ↔ (1 ≤ e.fRepeats.length ∧ e.fRepeats.length ≤ 20 ∧ ∀ t ∈ e.fRepeats, repF t = 0) := by
  unfold elemF
  by_cases h1 : e.fRepeats.length = 0
  · simp [h1]
  · by_cases h2 : 20 < e.fRepeats.length
    · simp [h1, h2]; omega
    · rw [if_neg h1, if_neg h2]
      exact ⟨fun h => ⟨by omega, by omega, listF_zero h⟩, fun h => listF_all h.2.2⟩
theorem segF_iff {s : Tapi_Segment} : segF s = 0 ↔ (tagF s.fTag = true ∧ s.fElements.length ≤ 50 ∧ ∀ e ∈ s.fElements, elemF e = 0) := by
  unfold segF
  by_cases h1 : tagF s.fTag = false
  · simp [h1]
  · by_cases h2 : 50 < s.fElements.length
    · simp [h1, h2]; intro h; omega
    · rw [if_neg h1, if_neg h2]
      exact ⟨fun h => ⟨by simpa using h1, by omega, listF_zero h⟩, fun h => listF_all h.2.2⟩
theorem seg_ok {s : Tapi_Segment} (h : segF s = 0) : cloneOk s := by
  obtain ⟨_, h2, h3⟩ := segF_iff.1 h
  refine ⟨by omega, fun e he => ?_⟩
  obtain ⟨_, h5, h6⟩ := elemF_iff.1 (h3 e he)
  refine ⟨by omega, fun p hp => ?_⟩
  obtain ⟨_, h8, _⟩ := repF_iff.1 (h6 p hp)
  omega
theorem sameTexts_refl (l : List (List UInt8)) (hl : l.length ≤ 137438953472) : m_interchangeref2_SameTexts l l = some true := by
  unfold m_interchangeref2_SameTexts sims_G3_0_1; dsimp only
  simp only [decide_true, Bool.not_true, cond_false]
  refine bind_loop (a := .inl (l.length : Int)) (loop_trace (fun i => (i : Int)) l.length (fun i hi => ?_) ?_) rfl
  · obtain ⟨e, he⟩ := get_lt hi
    simp only [lt_dec hi, cond_true, getI_nat, he, Option.bind_some, decide_true, Bool.not_true, cond_false, wrapN i (by omega)]
  · simp only [lt_dec_self, cond_false]; rfl
theorem sameSeg_refl (x : Tapi_Segment) (hx : cloneOk x) : m_interchangeref2_SameSegment x x = some true := by
  obtain ⟨h1, h2⟩ := hx
  unfold m_interchangeref2_SameSegment sims_G3_1_0; dsimp only
  simp only [decide_true, Bool.not_true, orO_some, Bool.or_self, Option.bind_some, cond_false]
  refine bind_loop (a := .inl (x.fElements.length : Int)) (loop_trace (fun i => (i : Int)) x.fElements.length (fun i hi => ?_) ?_) rfl
  · obtain ⟨e, he⟩ := get_lt hi
    obtain ⟨h3, h4⟩ := h2 e (List.mem_of_getElem? he)
    simp only [lt_dec hi, cond_true, getI_nat, he, Option.bind_some, decide_true, Bool.not_true, cond_false, wrapN i (by omega)]
    refine bind_loop (a := .inl (e.fRepeats.length : Int)) (loop_trace (fun i => (i : Int)) e.fRepeats.length (fun k hk => ?_) ?_) rfl
    · obtain ⟨p, hp⟩ := get_lt hk
      simp only [lt_dec hk, cond_true, getI_nat, hp, Option.bind_some, sameTexts_refl p (h4 p (List.mem_of_getElem? hp)), Bool.not_true, cond_false, wrapN k (by omega)]
    · simp only [lt_dec_self, cond_false]; rfl
  · simp only [lt_dec_self, cond_false]; rfl
theorem sameSegs_refl (l : List Tapi_Segment) (hl : l.length ≤ 137438953472) (hx : ∀ x ∈ l, cloneOk x) : m_interchangeref2_SameSegments l l = some true := by
  unfold m_interchangeref2_SameSegments sims_G3_2_0; dsimp only
  simp only [decide_true, Bool.not_true, cond_false]
  refine bind_loop (a := .inl (l.length : Int)) (loop_trace (fun i => (i : Int)) l.length (fun i hi => ?_) ?_) rfl
  · obtain ⟨e, he⟩ := get_lt hi
    simp only [lt_dec hi, cond_true, getI_nat, he, Option.bind_some, sameSeg_refl e (hx e (List.mem_of_getElem? he)), Bool.not_true, cond_false, wrapN i (by omega)]
  · simp only [lt_dec_self, cond_false]; rfl

theorem segs_in {l : List Tapi_Segment} (h : segsF l = 0) : l.length ≤ 2000 ∧ ∀ x ∈ l, segF x = 0 := by
  unfold segsF at h
  by_cases h1 : 2000 < l.length
  · simp [h1] at h
  · rw [if_neg h1] at h; exact ⟨by omega, listF_zero h⟩
end Go.Proofs.YthcfbglbjipdaaaGreatDoor

/-
  Plain laws of interchanges: CheckInterchange on both sides.
-/
namespace Go.Proofs.YthcfbglbjipdaaaGreatDoor
set_option linter.unusedSimpArgs false
set_option linter.unusedVariables false
open Go.RowKit

abbrev Ms := Tapi_Message
abbrev Gp := Tapi_Group
abbrev Ix := Tapi_Interchange
structure MsOk (m : Ms) : Prop where
  ref : m.fRef.length ≤ MX
  kind : m.fKind.length ≤ MX
  ver : m.fVersion.length ≤ MX
  len : m.fSegments.length ≤ 1048576
  tags : TagsShort m.fSegments
structure GpOk (g : Gp) : Prop where
  ref : g.fRef.length ≤ MX
  kind : g.fKind.length ≤ MX
  len : g.fMessages.length ≤ 1048576
  msg : ∀ m ∈ g.fMessages, MsOk m
structure IxOk (x : Ix) : Prop where
  ref : x.fRef.length ≤ MX
  snd : x.fSender.length ≤ MX
  rcv : x.fReceiver.length ≤ MX
  len : x.fGroups.length ≤ 1048576
  grp : ∀ g ∈ x.fGroups, GpOk g

/-! ### Loops that look whether all are so -/
theorem loop_allB {R : Type} (n : Nat) (q : Nat → Bool) (z : R) {f : Int → Option (Int ⊕ (Int ⊕ R))} (K : Int → Option R)
    (hf : ∀ i : Nat, i < n → f (i : Int) = bif q i then some (.inl ((i + 1 : Nat) : Int)) else some (.inr (.inr z))) (he : f (n : Int) = some (.inr (.inl (n : Int)))) :
    (loopC f 0).bind (outK K) = if (List.range n).all q = true then K (n : Int) else some z := by
  have h := loop_first (f := f) (z := .inl (n : Int)) (fun i : Nat => (i : Int)) n (fun i => if q i = true then none else some (.inr z)) (fun i hi hg => by
    rw [hf i hi]
    cases hq : q i with
    | true => rfl
    | false => simp [hq] at hg) (fun i a hi hg => by
    rw [hf i hi]
    cases hq : q i with
    | true => simp [hq] at hg
    | false => simp only [hq, Bool.false_eq_true, if_false, Option.some.injEq] at hg; simp only [cond_false, hg]) he
  rw [show ((0 : Nat) : Int) = 0 from rfl] at h
  rw [h]
  rcases firstS_cases (fun i => if q i = true then (none : Option (Int ⊕ R)) else some (.inr z)) n with ⟨h1, h2⟩ | ⟨k, a, h1, h2, h3, h4⟩
  · have : (List.range n).all q = true := by
      rw [List.all_eq_true]
      intro i hi
      have := h2 i (List.mem_range.1 hi)
      cases hq : q i with
      | true => rfl
      | false => simp [hq] at this
    rw [h1, if_pos this]; rfl
  · have hk : q k = false := by
      cases hq : q k with
      | false => rfl
      | true => simp [hq] at h3
    have : ¬ (List.range n).all q = true := by
      rw [List.all_eq_true]
      intro hall
      have := hall k (List.mem_range.2 h1)
      rw [hk] at this; cases this
    rw [h4, if_neg this]
    simp only [hk, Bool.false_eq_true, if_false, Option.some.injEq] at h3
    rw [← h3]; rfl
theorem firstF_zero {f : Nat → Int} : ∀ {n i : Nat}, firstF f i n = 0 → ∀ j, i ≤ j → j < i + n → f j = 0
  | 0, i, _, j, h1, h2 => by omega
  | n + 1, i, h, j, h1, h2 => by
    unfold firstF at h
    by_cases hz : f i = 0
    · rw [if_neg (by simpa using hz)] at h
      rcases Nat.lt_or_ge i j with hlt | hge
      · exact firstF_zero h j (by omega) (by omega)
      · obtain rfl : j = i := by omega
        exact hz
    · rw [if_pos hz] at h; exact absurd h hz
theorem anyIG_eq (l : List Gp) (hl : l.length ≤ MX) (f1 : FuncId) (c1 : List DV) (p1 : Gp → Option Bool) (h1) (q : Gp → Bool) (hq : ∀ a, p1 a = some (q a)) :
    m_slices_ContainsFunc_interchange_api_Group_interchange_api_Group l f1 c1 p1 h1 = some (l.any q) := by
  unfold MX at hl
  unfold m_slices_ContainsFunc_interchange_api_Group_interchange_api_Group sims_G3_1_0; dsimp only
  unfold m_slices_IndexFunc_interchange_api_Group_interchange_api_Group sims_G3_0_0; dsimp only
  generalize hf : (fun s : Int => _) = f
  have key := loop_first (f := f) (z := .inl (l.length : Int)) (fun i : Nat => (i : Int)) l.length (fun i => match l[i]? with | some o => if q o = true then some (.inr (i : Int)) else none | none => none) (fun i hi hg => by
    subst hf
    obtain ⟨e, he⟩ := get_lt hi
    simp only [he] at hg
    cases hb : q e with
    | true => simp [hb] at hg
    | false => simp only [lt_dec hi, cond_true, getI_nat, he, Option.bind_some, hq, hb, cond_false, wrapN i (by omega)]) (fun i a hi hg => by
    subst hf
    obtain ⟨e, he⟩ := get_lt hi
    simp only [he] at hg
    cases hb : q e with
    | false => simp [hb] at hg
    | true =>
      simp only [hb, if_true, Option.some.injEq] at hg
      simp only [lt_dec hi, cond_true, getI_nat, he, Option.bind_some, hq, hb, ← hg]; rfl) (by
    subst hf
    simp only [lt_dec_self, cond_false]; rfl)
  rw [show ((0 : Nat) : Int) = 0 from rfl] at key
  rw [key]
  rcases firstS_cases (fun i => match l[i]? with | some o => if q o = true then some (.inr (i : Int)) else none | none => (none : Option (Int ⊕ Int))) l.length with ⟨h1, h2⟩ | ⟨k, a, h1, h2, h3, h4⟩
  · rw [h1]
    have : l.any q = false := by
      rw [List.any_eq_false]
      intro x hx
      obtain ⟨i, hi, rfl⟩ := List.mem_iff_getElem.1 hx
      have := h2 i hi
      simp only [List.getElem?_eq_getElem hi] at this
      intro hb; simp [hb] at this
    rw [this]; rfl
  · rw [h4]
    obtain ⟨e, he⟩ := get_lt h1
    simp only [he] at h3
    cases hb : q e with
    | false => simp [hb] at h3
    | true =>
      simp only [hb, if_true, Option.some.injEq] at h3
      have : l.any q = true := List.any_eq_true.2 ⟨e, List.mem_of_getElem? he, hb⟩
      rw [this, ← h3]
      simp [outK]
theorem anyIM_eq (l : List Ms) (hl : l.length ≤ MX) (f1 : FuncId) (c1 : List DV) (p1 : Ms → Option Bool) (h1) (q : Ms → Bool) (hq : ∀ a, p1 a = some (q a)) :
    m_slices_ContainsFunc_interchange_api_Message_interchange_api_Message l f1 c1 p1 h1 = some (l.any q) := by
  unfold MX at hl
  unfold m_slices_ContainsFunc_interchange_api_Message_interchange_api_Message sims_G3_1_0; dsimp only
  unfold m_slices_IndexFunc_interchange_api_Message_interchange_api_Message sims_G3_0_0; dsimp only
  generalize hf : (fun s : Int => _) = f
  have key := loop_first (f := f) (z := .inl (l.length : Int)) (fun i : Nat => (i : Int)) l.length (fun i => match l[i]? with | some o => if q o = true then some (.inr (i : Int)) else none | none => none) (fun i hi hg => by
    subst hf
    obtain ⟨e, he⟩ := get_lt hi
    simp only [he] at hg
    cases hb : q e with
    | true => simp [hb] at hg
    | false => simp only [lt_dec hi, cond_true, getI_nat, he, Option.bind_some, hq, hb, cond_false, wrapN i (by omega)]) (fun i a hi hg => by
    subst hf
    obtain ⟨e, he⟩ := get_lt hi
    simp only [he] at hg
    cases hb : q e with
    | false => simp [hb] at hg
    | true =>
      simp only [hb, if_true, Option.some.injEq] at hg
      simp only [lt_dec hi, cond_true, getI_nat, he, Option.bind_some, hq, hb, ← hg]; rfl) (by
    subst hf
    simp only [lt_dec_self, cond_false]; rfl)
  rw [show ((0 : Nat) : Int) = 0 from rfl] at key
  rw [key]
  rcases firstS_cases (fun i => match l[i]? with | some o => if q o = true then some (.inr (i : Int)) else none | none => (none : Option (Int ⊕ Int))) l.length with ⟨h1, h2⟩ | ⟨k, a, h1, h2, h3, h4⟩
  · rw [h1]
    have : l.any q = false := by
      rw [List.any_eq_false]
      intro x hx
      obtain ⟨i, hi, rfl⟩ := List.mem_iff_getElem.1 hx
      have := h2 i hi
      simp only [List.getElem?_eq_getElem hi] at this
      intro hb; simp [hb] at this
    rw [this]; rfl
  · rw [h4]
    obtain ⟨e, he⟩ := get_lt h1
    simp only [he] at h3
    cases hb : q e with
    | false => simp [hb] at h3
    | true =>
      simp only [hb, if_true, Option.some.injEq] at h3
      have : l.any q = true := List.any_eq_true.2 ⟨e, List.mem_of_getElem? he, hb⟩
      rw [this, ← h3]
      simp [outK]

/-! ### A string in a list -/
theorem containsS_eq (l : List (List UInt8)) (t : List UInt8) (hl : l.length ≤ 1048576) : m_slices_Contains_string_string l t = some (l.any fun e => decide (t = e)) := by
  unfold m_slices_Contains_string_string sims_G3_1_0; dsimp only
  unfold m_slices_Index_string_string sims_G3_0_0; dsimp only
  generalize hf : (fun s : Int => _) = f
  have key := loop_first (f := f) (z := .inl (l.length : Int)) (fun i : Nat => (i : Int)) l.length (fun i => match l[i]? with | some o => if t = o then some (.inr (i : Int)) else none | none => none) (fun i hi hg => by
    subst hf
    obtain ⟨e, he⟩ := get_lt hi
    simp only [he] at hg
    have hb : ¬ t = e := fun h => by simp [h] at hg
    simp only [lt_dec hi, cond_true, getI_nat, he, Option.bind_some, hb, decide_false, cond_false, wrapN i (by omega)]) (fun i a hi hg => by
    subst hf
    obtain ⟨e, he⟩ := get_lt hi
    simp only [he] at hg
    by_cases hb : t = e
    · simp only [hb, if_true, Option.some.injEq] at hg
      simp only [lt_dec hi, cond_true, getI_nat, he, Option.bind_some, hb, decide_true, ← hg]; rfl
    · simp [hb] at hg) (by
    subst hf
    simp only [lt_dec_self, cond_false]; rfl)
  rw [show ((0 : Nat) : Int) = 0 from rfl] at key
  rw [key]
  rcases firstS_cases (fun i => match l[i]? with | some o => if t = o then some (.inr (i : Int)) else none | none => (none : Option (Int ⊕ Int))) l.length with ⟨h1, h2⟩ | ⟨k, a, h1, h2, h3, h4⟩
  · rw [h1]
    have : (l.any fun e => decide (t = e)) = false := by
      rw [List.any_eq_false]
      intro x hx
      obtain ⟨i, hi, rfl⟩ := List.mem_iff_getElem.1 hx
      have := h2 i hi
      simp only [List.getElem?_eq_getElem hi] at this
      intro hb
      have hb' := of_decide_eq_true hb
      rw [if_pos hb'] at this; cases this
    rw [this]; rfl
  · rw [h4]
    obtain ⟨e, he⟩ := get_lt h1
    simp only [he] at h3
    by_cases hb : t = e
    · simp only [hb, if_true, Option.some.injEq] at h3
      have : (l.any fun e => decide (t = e)) = true := List.any_eq_true.2 ⟨e, List.mem_of_getElem? he, decide_eq_true hb⟩
      rw [this, ← h3]
      simp [outK]
    · simp [hb] at h3
def headTags : List (List UInt8) := [[73, 72, 68], [71, 72, 68], [77, 72, 68]]
def tailTags : List (List UInt8) := [[73, 84, 82], [71, 84, 82], [77, 84, 82]]
def envT (t : List UInt8) : Bool := (headTags.any fun e => decide (t = e)) || (tailTags.any fun e => decide (t = e))
theorem w_head (t : List UInt8) : m_slices_Contains_string_string [[73, 72, 68], [71, 72, 68], [77, 72, 68]] t = some (headTags.any fun e => decide (t = e)) := containsS_eq _ t (by decide)
theorem w_tail (t : List UInt8) : m_slices_Contains_string_string [[73, 84, 82], [71, 84, 82], [77, 84, 82]] t = some (tailTags.any fun e => decide (t = e)) := containsS_eq _ t (by decide)
theorem r_env (t : List UInt8) : m_interchangeref2_isEnvelope t = some (envT t) := by
  unfold m_interchangeref2_isEnvelope sims_G3_1_0; dsimp only
  unfold m_interchangeref2_levelOf sims_G3_0_1; dsimp only
  unfold envT headTags tailTags
  simp only [List.any_cons, List.any_nil, Bool.or_false]
  by_cases h1 : t = [73, 72, 68]
  · subst h1; rfl
  · by_cases h2 : t = [71, 72, 68]
    · subst h2; rfl
    · by_cases h3 : t = [77, 72, 68]
      · subst h3; rfl
      · by_cases h4 : t = [73, 84, 82]
        · subst h4; rfl
        · by_cases h5 : t = [71, 84, 82]
          · subst h5; rfl
          · by_cases h6 : t = [77, 84, 82]
            · subst h6; rfl
            · simp [h1, h2, h3, h4, h5, h6]

/-! ### Messages -/
def imN (a b c : Bool) (fs : Int) (e : Bool) : Int := bif !a then 3 else bif b then 5 else bif c then 7 else bif !decide (fs = 0) then fs else bif e then 4 else 0
def imF (m : Ms) (tw : Bool) : Int := imN (isRef m.fRef) (!nameF m.fKind || !nameF m.fVersion) tw (segsF m.fSegments) (m.fSegments.any fun s => envT s.fTag)
theorem w_heads : m_wire_heads = some [[73, 72, 68], [71, 72, 68], [77, 72, 68]] := by unfold m_wire_heads sims_G3_0_0; dsimp only
theorem w_tails : m_wire_tails = some [[73, 84, 82], [71, 84, 82], [77, 84, 82]] := by unfold m_wire_tails sims_G3_0_0; dsimp only
theorem env_end (l : List Tapi_Segment) : (if firstF (anyAt l (fun s => envT s.fTag) 4) 0 l.length = 0 then some 0 else some (firstF (anyAt l (fun s => envT s.fTag) 4) 0 l.length)) = some (bif l.any fun s => envT s.fTag then (4 : Int) else 0) := by
  rw [firstF_any l _ 4 (by decide) l.length (Nat.le_refl _), List.take_length]
  cases l.any fun s => envT s.fTag <;> rfl
theorem w_msg (m : Ms) (h : MsOk m) (l : List Ms) (hl : l.length ≤ MX) : m_wire_messageFault m l = some (imF m (l.any fun o => decide (o.fRef = m.fRef))) := by
  have hlen := h.len
  have h1 : ∀ a, m_wire_messageFault_1 a m = some (decide (a.fRef = m.fRef)) := fun a => by unfold m_wire_messageFault_1 sims_G3_0_0; dsimp only
  unfold m_wire_messageFault sims_G3_2_0; dsimp only
  simp only [orO_some, Option.bind_some, isRef_eq _ h.ref, w_name _ h.kind, w_name _ h.ver, anyIM_eq l hl _ _ _ _ _ h1, w_segs _ h.tags]
  unfold imF imN
  cases isRef m.fRef with
  | false => rfl
  | true =>
  cases (!nameF m.fKind || !nameF m.fVersion) with
  | true => rfl
  | false =>
  cases (l.any fun o => decide (o.fRef = m.fRef)) with
  | true => rfl
  | false =>
  cases hz : decide (segsF m.fSegments = 0) with
  | false => rfl
  | true =>
  simp only [Bool.not_true, cond_false, w_heads, w_tails, Option.bind_some, w_head, w_tail, orO_some]
  refine (loop_fS (fun i : Nat => (i : Int)) (n := m.fSegments.length) (g := anyAt m.fSegments (fun s => envT s.fTag) 4) (fun i hi => ?_) (by simp only [lt_dec_self, cond_false]; rfl) _).trans (env_end _)
  obtain ⟨e, he⟩ := get_lt hi
  simp only [lt_dec hi, cond_true, getI_nat, he, Option.bind_some, wrapN i (by omega), anyAt]
  change (bif envT e.fTag then _ else _) = _
  by_cases hb : envT e.fTag = true <;> simp [hb, inrO]
theorem r_msg (l : List Ms) (i : Nat) {m : Ms} (hm : l[i]? = some m) (h : MsOk m) (hl : l.length ≤ MX) : m_interchangeref2_checkMessage l i = some (imF m ((l.take i).any fun o => decide (o.fRef = m.fRef))) := by
  have hlen := h.len
  have hil := get_le hm
  have hl' := hl
  unfold MX at hl'
  unfold m_interchangeref2_checkMessage sims_G3_2_0; dsimp only
  simp only [getI_nat, hm, orO_some, Option.bind_some, isReference_eq _ h.ref, r_name _ h.kind, r_name _ h.ver, r_segs _ h.tags]
  unfold imF imN
  cases isRef m.fRef with
  | false => rfl
  | true =>
  cases (!nameF m.fKind || !nameF m.fVersion) with
  | true => rfl
  | false =>
  simp only [Bool.not_true, cond_false]
  rw [before_eq l i (by omega) hl (fun o => decide (o.fRef = m.fRef)) _ (fun k o hk ho => by
    simp only [lt_dec hk, cond_true, getI_nat, ho, Option.bind_some, wrapN k (by omega)]
    cases decide (o.fRef = m.fRef) <;> rfl) (by simp only [lt_dec_self, cond_false]; rfl)]
  cases ((l.take i).any fun o => decide (o.fRef = m.fRef)) with
  | true => rfl
  | false =>
  cases hz : decide (segsF m.fSegments = 0) with
  | false => rfl
  | true =>
  simp only [Bool.not_true, cond_false, r_env, Option.bind_some]
  refine (loop_fS (fun i : Nat => (i : Int)) (n := m.fSegments.length) (g := anyAt m.fSegments (fun s => envT s.fTag) 4) (fun i hi => ?_) (by simp only [lt_dec_self, cond_false]; rfl) _).trans (env_end _)
  obtain ⟨e, he⟩ := get_lt hi
  simp only [lt_dec hi, cond_true, getI_nat, he, Option.bind_some, wrapN i (by omega), anyAt]
  by_cases hb : envT e.fTag = true <;> simp [hb, inrO]
/-! ### Groups -/
def imAt (l : List Ms) (i : Nat) : Int := match l[i]? with
  | some m => imF m ((l.take i).any fun o => decide (o.fRef = m.fRef))
  | none => 0
def igN (a b c : Bool) (fm : Int) : Int := bif !a then 3 else bif !b then 5 else bif c then 7 else fm
def igF (g : Gp) (tw : Bool) : Int := igN (isRef g.fRef) (nameF g.fKind) tw (firstF (imAt g.fMessages) 0 g.fMessages.length)
theorem if_same (a : Int) : (if a = 0 then some 0 else some a) = some a := by split <;> simp_all
theorem sliceI_to {α : Type} (l : List α) {i : Nat} (h : i ≤ l.length) : sliceI l ((none : Option Int).getD 0) ((some (i : Int)).getD (l.length : Int)) = some (l.take i) := sliceI_take l i h
theorem w_grp (g : Gp) (h : GpOk g) (l : List Gp) (hl : l.length ≤ MX) : m_wire_groupFault g l = some (igF g (l.any fun o => decide (o.fRef = g.fRef))) := by
  have hlen := h.len
  have h1 : ∀ a, m_wire_groupFault_1 a g = some (decide (a.fRef = g.fRef)) := fun a => by unfold m_wire_groupFault_1 sims_G3_0_0; dsimp only
  unfold m_wire_groupFault sims_G3_3_0; dsimp only
  simp only [Option.bind_some, isRef_eq _ h.ref, w_name _ h.kind, anyIG_eq l hl _ _ _ _ _ h1]
  unfold igF igN
  cases isRef g.fRef with
  | false => rfl
  | true =>
  cases nameF g.fKind with
  | false => rfl
  | true =>
  cases (l.any fun o => decide (o.fRef = g.fRef)) with
  | true => rfl
  | false =>
  simp only [Bool.not_true, cond_false]
  refine (loop_fS (fun i : Nat => (i : Int)) (n := g.fMessages.length) (g := imAt g.fMessages) (fun i hi => ?_) (by simp only [lt_dec_self, cond_false]; rfl) _).trans (if_same _)
  obtain ⟨e, he⟩ := get_lt hi
  have hs := h.msg e (List.mem_of_getElem? he)
  simp only [lt_dec hi, cond_true, getI_nat, he, Option.bind_some, sliceI_to g.fMessages (Nat.le_of_lt hi), w_msg e hs _ (show (g.fMessages.take i).length ≤ MX by rw [List.length_take]; unfold MX; omega), wrapN i (by omega), imAt]
  generalize imF e _ = a
  by_cases ha : a = 0 <;> simp [ha, inrO]
theorem r_grp (l : List Gp) (i : Nat) {g : Gp} (hg : l[i]? = some g) (h : GpOk g) (hl : l.length ≤ MX) : m_interchangeref2_checkGroup l i = some (igF g ((l.take i).any fun o => decide (o.fRef = g.fRef))) := by
  have hlen := h.len
  have hil := get_le hg
  have hl' := hl
  unfold MX at hl'
  unfold m_interchangeref2_checkGroup sims_G3_3_0; dsimp only
  simp only [getI_nat, hg, Option.bind_some, isReference_eq _ h.ref, r_name _ h.kind]
  unfold igF igN
  cases isRef g.fRef with
  | false => rfl
  | true =>
  cases nameF g.fKind with
  | false => rfl
  | true =>
  simp only [Bool.not_true, cond_false]
  rw [before_eq l i (by omega) hl (fun o => decide (o.fRef = g.fRef)) _ (fun k o hk ho => by
    simp only [lt_dec hk, cond_true, getI_nat, ho, Option.bind_some, wrapN k (by omega)]
    cases decide (o.fRef = g.fRef) <;> rfl) (by simp only [lt_dec_self, cond_false]; rfl)]
  cases ((l.take i).any fun o => decide (o.fRef = g.fRef)) with
  | true => rfl
  | false =>
  simp only [cond_false]
  refine (loop_fS (fun i : Nat => (i : Int)) (n := g.fMessages.length) (g := imAt g.fMessages) (fun i hi => ?_) (by simp only [lt_dec_self, cond_false]; rfl) _).trans (if_same _)
  obtain ⟨e, he⟩ := get_lt hi
  have hs := h.msg e (List.mem_of_getElem? he)
  simp only [lt_dec hi, cond_true, r_msg g.fMessages i he hs (show g.fMessages.length ≤ MX by unfold MX; omega), Option.bind_some, wrapN i (by omega), imAt, he]
  generalize imF e _ = a
  by_cases ha : a = 0 <;> simp [ha, inrO]
/-! ### Interchanges -/
def igAt (l : List Gp) (i : Nat) : Int := match l[i]? with
  | some g => igF g ((l.take i).any fun o => decide (o.fRef = g.fRef))
  | none => 0
def segN (l : List Ms) (n : Int) : Int := l.foldl (fun n m => IntKind.i64.wrap (n + IntKind.i64.wrap (2 + (m.fSegments.length : Int)))) n
def cntF (l : List Gp) : Int × Int := l.foldl (fun s g => (IntKind.i64.wrap (s.1 + (g.fMessages.length : Int)), segN g.fMessages (IntKind.i64.wrap (s.2 + 2)))) (0, 2)
def ciN (a b c d : Bool) (fg : Int) (e : Bool) : Int := bif !a then 3 else bif b then 5 else bif c then 1 else bif d then 2 else if fg = 0 then (bif e then 2 else 0) else fg
def ciF (x : Ix) : Int := ciN (isRef x.fRef) (!nameF x.fSender || !nameF x.fReceiver) (outside x.fDay 1 3652059 || outside x.fSecond 0 86399) (decide (50 < x.fGroups.length)) (firstF (igAt x.fGroups) 0 x.fGroups.length)
  (decide (200 < (cntF x.fGroups).1) || decide (2000 < (cntF x.fGroups).2))
theorem seg_loop (l : List Ms) (hl : l.length ≤ 1048576) (n : Int) {R : Type} {f : Int × Int → Option ((Int × Int) ⊕ ((Int × Int) ⊕ R))} (K : Int × Int → Option R)
    (hf : ∀ (i : Nat) e (a : Int), l[i]? = some e → f (a, (i : Int)) = some (.inl (IntKind.i64.wrap (a + IntKind.i64.wrap (2 + (e.fSegments.length : Int))), ((i + 1 : Nat) : Int)))) (he : ∀ a, f (a, (l.length : Int)) = some (.inr (.inl (a, (l.length : Int))))) :
    (loopC f (n, 0)).bind (outK K) = K (segN l n, (l.length : Int)) := by
  refine bind_loop (a := .inl (segN l n, (l.length : Int))) (loop_pre l (fun i q => (segN q n, (i : Int))) (fun i e h => ?_) (he _)) rfl
  rw [hf i e _ h]
  unfold segN
  rw [List.foldl_append]; rfl
theorem w_counts (x : Ix) (h : IxOk x) : m_wire_counts x = some (cntF x.fGroups) := by
  have hlen := h.len
  unfold m_wire_counts sims_G3_0_0; dsimp only
  refine bind_loop (a := .inl ((cntF x.fGroups).1, (cntF x.fGroups).2, (x.fGroups.length : Int))) (loop_pre x.fGroups (fun i q => ((cntF q).1, (cntF q).2, (i : Int))) (fun i e he => ?_) (by simp only [lt_dec_self, cond_false]; rfl)) rfl
  have hi := get_le he
  have hg := (h.grp e (List.mem_of_getElem? he)).len
  simp only [lt_dec hi, cond_true, getI_nat, he, Option.bind_some]
  refine (seg_loop e.fMessages hg _ _ (fun k m a hm => ?_) (fun a => by simp only [lt_dec_self, cond_false]; rfl)).trans ?_
  · have hk := get_le hm
    simp only [lt_dec hk, cond_true, getI_nat, hm, Option.bind_some, wrapN k (by omega)]
  · simp only [wrapN i (by omega)]
    unfold cntF
    rw [List.foldl_append]; rfl
theorem w_ci (x : Ix) (h : IxOk x) : m_wire_CheckInterchange x = some (ciF x) := by
  have hlen := h.len
  have hday : m_kit_IsDay x.fDay = some (!outside x.fDay 1 3652059) := by unfold m_kit_IsDay sims_G3_1_0; dsimp only; simp only [outside_eq, Option.bind_some]
  unfold m_wire_CheckInterchange sims_G3_4_0; dsimp only
  rw [show decide ((50 : Int) < (x.fGroups.length : Int)) = decide (50 < x.fGroups.length) from big_dec x.fGroups.length 50]
  simp only [Option.bind_some, orO_some, isRef_eq _ h.ref, w_name _ h.snd, w_name _ h.rcv, hday, outside_eq, Bool.not_not, w_counts x h]
  unfold ciF ciN
  cases isRef x.fRef with
  | false => rfl
  | true =>
  cases (!nameF x.fSender || !nameF x.fReceiver) with
  | true => rfl
  | false =>
  cases (outside x.fDay 1 3652059 || outside x.fSecond 0 86399) with
  | true => rfl
  | false =>
  cases decide (50 < x.fGroups.length) with
  | true => rfl
  | false =>
  simp only [Bool.not_true, cond_false]
  refine (loop_fS (fun i : Nat => (i : Int)) (n := x.fGroups.length) (g := igAt x.fGroups) (fun i hi => ?_) (by simp only [lt_dec_self, cond_false]; rfl) _).trans ?_
  · obtain ⟨e, he⟩ := get_lt hi
    have hs := h.grp e (List.mem_of_getElem? he)
    simp only [lt_dec hi, cond_true, getI_nat, he, Option.bind_some, sliceI_to x.fGroups (Nat.le_of_lt hi), w_grp e hs _ (show (x.fGroups.take i).length ≤ MX by rw [List.length_take]; unfold MX; omega), wrapN i (by omega), igAt]
    generalize igF e _ = a
    by_cases ha : a = 0 <;> simp [ha, inrO]
  · by_cases hq : firstF (igAt x.fGroups) 0 x.fGroups.length = 0
    · rw [if_pos hq, if_pos hq]
      cases decide (200 < (cntF x.fGroups).1) <;> cases decide (2000 < (cntF x.fGroups).2) <;> rfl
    · rw [if_neg hq, if_neg hq]
theorem r_ci (x : Ix) (h : IxOk x) : m_interchangeref2_CheckInterchange x = some (ciF x) := by
  have hlen := h.len
  unfold m_interchangeref2_CheckInterchange sims_G3_4_0; dsimp only
  rw [show decide ((50 : Int) < (x.fGroups.length : Int)) = decide (50 < x.fGroups.length) from big_dec x.fGroups.length 50]
  simp only [Option.bind_some, orO_some, isReference_eq _ h.ref, r_name _ h.snd, r_name _ h.rcv]
  have hr : (decide (x.fDay < 1) || decide (3652059 < x.fDay) || decide (x.fSecond < 0) || decide (86399 < x.fSecond)) = (outside x.fDay 1 3652059 || outside x.fSecond 0 86399) := by unfold outside; simp only [Bool.or_assoc]
  rw [hr]
  unfold ciF ciN
  cases isRef x.fRef with
  | false => rfl
  | true =>
  cases (!nameF x.fSender || !nameF x.fReceiver) with
  | true => rfl
  | false =>
  cases (outside x.fDay 1 3652059 || outside x.fSecond 0 86399) with
  | true => rfl
  | false =>
  cases decide (50 < x.fGroups.length) with
  | true => rfl
  | false =>
  simp only [Bool.not_true, cond_false]
  refine (loop_fS (fun i : Nat => ((cntF (x.fGroups.take i)).1, (cntF (x.fGroups.take i)).2, (i : Int))) (n := x.fGroups.length) (g := igAt x.fGroups) (fun i hi => ?_) (by simp only [lt_dec_self, cond_false]; rfl) _).trans ?_
  · obtain ⟨e, he⟩ := get_lt hi
    have hs := h.grp e (List.mem_of_getElem? he)
    have hg := hs.len
    simp only [lt_dec hi, cond_true, r_grp x.fGroups i he hs (show x.fGroups.length ≤ MX by unfold MX; omega), getI_nat, he, Option.bind_some, igAt]
    generalize igF e _ = a
    by_cases ha : a = 0
    · simp only [ha, decide_true, Bool.not_true, cond_false, if_true]
      refine (seg_loop e.fMessages hg _ _ (fun k m a hm => ?_) (fun a => by simp only [lt_dec_self, cond_false]; rfl)).trans ?_
      · have hk := get_le hm
        simp only [lt_dec hk, cond_true, getI_nat, hm, Option.bind_some, wrapN k (by omega)]
      · have hc : cntF (x.fGroups.take (i + 1)) = (IntKind.i64.wrap ((cntF (x.fGroups.take i)).1 + (e.fMessages.length : Int)), segN e.fMessages (IntKind.i64.wrap ((cntF (x.fGroups.take i)).2 + 2))) := foldl_snoc he
        simp only [hc, wrapN i (by omega)]
    · simp [ha, inrO]
  · by_cases hq : firstF (igAt x.fGroups) 0 x.fGroups.length = 0
    · rw [if_pos hq, if_pos hq]
      simp only [List.take_length]
      cases decide (200 < (cntF x.fGroups).1) <;> cases decide (2000 < (cntF x.fGroups).2) <;> rfl
    · rw [if_neg hq, if_neg hq]
end Go.Proofs.YthcfbglbjipdaaaGreatDoor

/-
  Plain laws: what a right interchange has; copies of segments.
-/
namespace Go.Proofs.YthcfbglbjipdaaaGreatDoor
set_option linter.unusedSimpArgs false
set_option linter.unusedVariables false
open Go.RowKit

/-! ### What a right interchange has -/
theorem ci_grp {x : Ix} (h : ciF x = 0) : ∀ g ∈ x.fGroups, ∀ m ∈ g.fMessages, segsF m.fSegments = 0 := by
  unfold ciF ciN at h
  have hf : firstF (igAt x.fGroups) 0 x.fGroups.length = 0 := by
    revert h
    cases isRef x.fRef with
    | false => intro h; cases h
    | true =>
    cases (!nameF x.fSender || !nameF x.fReceiver) with
    | true => intro h; cases h
    | false =>
    cases (outside x.fDay 1 3652059 || outside x.fSecond 0 86399) with
    | true => intro h; cases h
    | false =>
    cases decide (50 < x.fGroups.length) with
    | true => intro h; cases h
    | false =>
      intro h
      simp only [Bool.not_true, cond_false] at h
      by_cases hq : firstF (igAt x.fGroups) 0 x.fGroups.length = 0
      · exact hq
      · rw [if_neg hq] at h; exact h
  intro g hg m hm
  obtain ⟨i, hi, rfl⟩ := List.mem_iff_getElem.1 hg
  have h1 := firstF_zero hf i (by omega) (by omega)
  simp only [igAt, List.getElem?_eq_getElem hi] at h1
  have h2 : firstF (imAt x.fGroups[i].fMessages) 0 x.fGroups[i].fMessages.length = 0 := by
    revert h1
    unfold igF igN
    cases isRef x.fGroups[i].fRef with
    | false => intro h; cases h
    | true =>
    cases nameF x.fGroups[i].fKind with
    | false => intro h; cases h
    | true =>
    cases ((x.fGroups.take i).any fun o => decide (o.fRef = x.fGroups[i].fRef)) with
    | true => intro h; cases h
    | false => intro h; exact h
  obtain ⟨k, hk, rfl⟩ := List.mem_iff_getElem.1 hm
  have h3 := firstF_zero h2 k (by omega) (by omega)
  simp only [imAt, List.getElem?_eq_getElem hk] at h3
  revert h3
  unfold imF imN
  cases isRef _ with
  | false => intro h; cases h
  | true =>
  cases (!nameF _ || !nameF _) with
  | true => intro h; cases h
  | false =>
  cases List.any _ _ with
  | true => intro h; cases h
  | false =>
    intro h
    by_cases hz : segsF (x.fGroups[i].fMessages[k]).fSegments = 0
    · exact hz
    · simp only [hz, decide_false, Bool.not_true, Bool.not_false, cond_false, cond_true] at h
def SegsOk (l : List Tapi_Segment) : Prop := l.length ≤ 137438953472 ∧ ∀ s ∈ l, cloneOk s
theorem segs_ok {l : List Tapi_Segment} (h : segsF l = 0) : SegsOk l := by
  obtain ⟨h1, h2⟩ := segs_in h
  exact ⟨by omega, fun s hs => seg_ok (h2 s hs)⟩
theorem cloneAll_eq (l : List Tapi_Segment) (h : SegsOk l) : m_wire_CloneAll l = some l := by
  obtain ⟨h1, h2⟩ := h
  have hc : m_slices_Clone_interchange_api_Segment_interchange_api_Segment l = some l := by
    unfold m_slices_Clone_interchange_api_Segment_interchange_api_Segment
    rw [if_pos h1]
  unfold m_wire_CloneAll sims_G3_0_1; dsimp only
  rw [hc]
  simp only [Option.bind_some]
  refine bind_loop (a := .inl (l, (l.length : Int))) (loop_trace (fun i : Nat => (l, (i : Int))) l.length (fun i hi => ?_) ?_) rfl
  · obtain ⟨e, he⟩ := get_lt hi
    have hm : m_wire_Clone e = some e := by unfold m_wire_Clone; rw [if_pos (h2 e (List.mem_of_getElem? he))]
    have hs : l.set i e = l := by
      obtain ⟨hi', rfl⟩ := List.getElem?_eq_some_iff.1 he
      exact List.set_getElem_self hi'
    simp only [lt_dec hi, cond_true, getI_nat, he, Option.bind_some, Int.toNat_natCast, hm, hs, wrapN i (by omega)]
  · simp only [lt_dec_self, cond_false]; rfl

end Go.Proofs.YthcfbglbjipdaaaGreatDoor

/-
  Plain laws of interchanges: parts, and what is merged of them.
-/
namespace Go.Proofs.YthcfbglbjipdaaaGreatDoor
set_option linter.unusedSimpArgs false
set_option linter.unusedVariables false
open Go.RowKit

/-! ### A list of groups within another one -/
structure RG (a b : Gp) : Prop where
  ref : a.fRef = b.fRef
  kind : a.fKind = b.fKind
  sub : a.fMessages.Sublist b.fMessages
inductive SubG : List Gp → List Gp → Prop
  | nil {G : List Gp} : SubG [] G
  | skip {gs : List Gp} {g : Gp} {G : List Gp} : SubG gs G → SubG gs (g :: G)
  | cons {a b : Gp} {gs G : List Gp} : RG a b → SubG gs G → SubG (a :: gs) (b :: G)
theorem RG.refl (a : Gp) : RG a a := ⟨rfl, rfl, List.Sublist.refl _⟩
theorem RG.trans {a b c : Gp} (h : RG a b) (k : RG b c) : RG a c := ⟨h.ref.trans k.ref, h.kind.trans k.kind, h.sub.trans k.sub⟩
theorem SubG.refl : ∀ G : List Gp, SubG G G
  | [] => .nil
  | g :: G => .cons (.refl g) (SubG.refl G)
theorem SubG.trans {a b c : List Gp} (h : SubG a b) (k : SubG b c) : SubG a c := by
  induction k generalizing a with
  | nil => cases h; exact .nil
  | skip _ ih => exact .skip (ih h)
  | cons r _ ih =>
    cases h with
    | nil => exact .nil
    | skip h => exact .skip (ih h)
    | cons r' h => exact .cons (r'.trans r) (ih h)
theorem SubG.app {a b : List Gp} (h : SubG a b) (c : List Gp) : SubG a (b ++ c) := by
  induction h with
  | nil => exact .nil
  | skip _ ih => exact .skip ih
  | cons r _ ih => exact .cons r ih
theorem SubG.pre {a b : List Gp} (h : SubG a b) : ∀ c : List Gp, SubG a (c ++ b)
  | [] => h
  | _ :: c => .skip (h.pre c)
theorem SubG.both {a b c d : List Gp} (h : SubG a b) (k : SubG c d) : SubG (a ++ c) (b ++ d) := by
  induction h with
  | nil => exact k.pre _
  | skip _ ih => exact .skip ih
  | cons r _ ih => exact .cons r ih
theorem SubG.len {a b : List Gp} (h : SubG a b) : a.length ≤ b.length := by
  induction h with
  | nil => simp
  | skip _ ih => simp only [List.length_cons]; omega
  | cons _ _ ih => simp only [List.length_cons]; omega
theorem SubG.mem {a b : List Gp} (h : SubG a b) : ∀ g ∈ a, ∃ g' ∈ b, RG g g' := by
  induction h with
  | nil => intro g hg; cases hg
  | skip _ ih => intro g hg; obtain ⟨g', h1, h2⟩ := ih g hg; exact ⟨g', .tail _ h1, h2⟩
  | cons r _ ih =>
    intro g hg
    rcases List.mem_cons.1 hg with rfl | hg
    · exact ⟨_, .head _, r⟩
    · obtain ⟨g', h1, h2⟩ := ih g hg; exact ⟨g', .tail _ h1, h2⟩
def refsD (G : List Gp) : Prop := G.Pairwise fun a b => a.fRef ≠ b.fRef
/-! ### How many messages, how many segments -/
def sumN {α : Type} (f : α → Nat) : List α → Nat
  | [] => 0
  | a :: l => f a + sumN f l
theorem sumN_app {α : Type} (f : α → Nat) : ∀ (a b : List α), sumN f (a ++ b) = sumN f a + sumN f b
  | [], b => by simp [sumN]
  | x :: a, b => by simp only [List.cons_append, sumN, sumN_app f a b]; omega
theorem sumN_sub {α : Type} (f : α → Nat) {a b : List α} (h : a.Sublist b) : sumN f a ≤ sumN f b := by
  induction h with
  | slnil => exact Nat.le_refl _
  | cons _ _ ih => simp only [sumN]; omega
  | cons_cons _ _ ih => simp only [sumN]; omega
theorem sumN_bound {α : Type} (f : α → Nat) (c : Nat) : ∀ {l : List α}, (∀ x ∈ l, f x ≤ c) → sumN f l ≤ l.length * c
  | [], _ => by simp [sumN]
  | x :: l, h => by
    have h1 := h x (.head _)
    have h2 := sumN_bound f c (l := l) fun y hy => h y (.tail _ hy)
    simp only [sumN, List.length_cons, Nat.add_mul, Nat.one_mul]
    omega
def mesN (l : List Gp) : Nat := sumN (fun g => g.fMessages.length) l
def sgM (m : Ms) : Nat := 2 + m.fSegments.length
def sgG (g : Gp) : Nat := 2 + sumN sgM g.fMessages
def sgN (l : List Gp) : Nat := 2 + sumN sgG l
theorem SubG.sum {f : Gp → Nat} (hf : ∀ a b, RG a b → f a ≤ f b) {a b : List Gp} (h : SubG a b) : sumN f a ≤ sumN f b := by
  induction h with
  | nil => simp [sumN]
  | skip _ ih => simp only [sumN]; omega
  | cons r _ ih => have := hf _ _ r; simp only [sumN]; omega
theorem SubG.mesN {a b : List Gp} (h : SubG a b) : mesN a ≤ mesN b := h.sum fun _ _ r => r.sub.length_le
theorem SubG.sgN {a b : List Gp} (h : SubG a b) : sgN a ≤ sgN b := by
  have := h.sum (f := sgG) fun _ _ r => by have := sumN_sub sgM r.sub; unfold sgG; omega
  unfold Go.Proofs.YthcfbglbjipdaaaGreatDoor.sgN; omega
theorem wrap_small {n : Int} (h : -9223372036854775808 ≤ n) (h2 : n ≤ 9223372036854775807) : IntKind.i64.wrap n = n := wrap64 n h h2
theorem segN_eq : ∀ (l : List Ms) (n : Nat), n + sumN sgM l ≤ 9223372036854775807 → segN l (n : Int) = ((n + sumN sgM l : Nat) : Int)
  | [], n, _ => rfl
  | m :: l, n, h => by
    have e0 : sgM m = 2 + m.fSegments.length := rfl
    simp only [sumN] at h
    have e : IntKind.i64.wrap ((n : Int) + IntKind.i64.wrap (2 + (m.fSegments.length : Int))) = ((n + sgM m : Nat) : Int) := by
      rw [wrap_small (n := 2 + (m.fSegments.length : Int)) (by omega) (by omega), wrap_small (n := (n : Int) + (2 + (m.fSegments.length : Int))) (by omega) (by omega)]; omega
    have e2 : segN (m :: l) (n : Int) = segN l (IntKind.i64.wrap ((n : Int) + IntKind.i64.wrap (2 + (m.fSegments.length : Int)))) := rfl
    rw [e2, e, segN_eq l (n + sgM m) (by omega)]
    simp only [sumN]; congr 1; omega
theorem cnt_eq : ∀ (l : List Gp) (a b : Nat), a + mesN l ≤ 9223372036854775807 → b + sumN sgG l ≤ 9223372036854775807 →
    l.foldl (fun s g => (IntKind.i64.wrap (s.1 + (g.fMessages.length : Int)), segN g.fMessages (IntKind.i64.wrap (s.2 + 2)))) ((a : Int), (b : Int)) = (((a + mesN l : Nat) : Int), ((b + sumN sgG l : Nat) : Int))
  | [], a, b, _, _ => rfl
  | g :: l, a, b, h1, h2 => by
    have e0 : sgG g = 2 + sumN sgM g.fMessages := rfl
    have e5 : mesN (g :: l) = g.fMessages.length + mesN l := rfl
    have e6 : sumN sgG (g :: l) = sgG g + sumN sgG l := rfl
    have e1 : IntKind.i64.wrap ((a : Int) + (g.fMessages.length : Int)) = ((a + g.fMessages.length : Nat) : Int) := by rw [wrap_small (by omega) (by omega)]; omega
    have e2 : IntKind.i64.wrap ((b : Int) + 2) = ((b + 2 : Nat) : Int) := by rw [wrap_small (by omega) (by omega)]; omega
    simp only [List.foldl_cons, e1, e2]
    rw [segN_eq g.fMessages (b + 2) (by omega)]
    have := cnt_eq l (a + g.fMessages.length) (b + 2 + sumN sgM g.fMessages) (by omega) (by omega)
    rw [this, e5, e6, e0]
    congr 2 <;> omega
/-! ### When an interchange is right -/
theorem firstF_all {f : Nat → Int} : ∀ {n i : Nat}, (∀ j, i ≤ j → j < i + n → f j = 0) → firstF f i n = 0
  | 0, _, _ => rfl
  | n + 1, i, h => by
    unfold firstF
    rw [if_neg (by simpa using h i (Nat.le_refl _) (by omega))]
    exact firstF_all fun j h1 h2 => h j (by omega) (by omega)
theorem firstF_iff {f : Nat → Int} {n : Nat} : firstF f 0 n = 0 ↔ ∀ j, j < n → f j = 0 :=
  ⟨fun h j hj => firstF_zero h j (Nat.zero_le _) (by omega), fun h => firstF_all fun j _ hj => h j (by omega)⟩
theorem imN_tw {a b c : Bool} {fs : Int} {e : Bool} (h : imN a b c fs e = 0) : c = false ∧ imN a b false fs e = 0 := by
  unfold imN at h ⊢
  cases a <;> cases b <;> cases c <;> simp_all
theorem igN_tw {a b c : Bool} {fm : Int} (h : igN a b c fm = 0) : c = false ∧ a = true ∧ b = true ∧ fm = 0 := by
  unfold igN at h
  cases a <;> cases b <;> cases c <;> simp_all
def msOk (l : List Ms) : Prop := (∀ m ∈ l, imF m false = 0) ∧ l.Pairwise fun a b => a.fRef ≠ b.fRef
theorem pair_idx {α : Type} {R : α → α → Prop} {l : List α} : l.Pairwise R ↔ ∀ (i j : Nat) (a b : α), l[i]? = some a → l[j]? = some b → i < j → R a b := by
  rw [List.pairwise_iff_getElem]
  constructor
  · intro h i j a b hi hj hij
    obtain ⟨h1, rfl⟩ := List.getElem?_eq_some_iff.1 hi
    obtain ⟨h2, rfl⟩ := List.getElem?_eq_some_iff.1 hj
    exact h i j h1 h2 hij
  · intro h i j h1 h2 hij
    exact h i j _ _ (List.getElem?_eq_getElem h1) (List.getElem?_eq_getElem h2) hij
theorem take_any_false {α : Type} {l : List α} {i : Nat} {q : α → Bool} : (l.take i).any q = false ↔ ∀ (j : Nat) (a : α), j < i → l[j]? = some a → q a = false := by
  rw [List.any_eq_false]
  constructor
  · intro h j a hj ha
    have : a ∈ l.take i := List.mem_of_getElem? (i := j) (by rw [List.getElem?_take, if_pos hj]; exact ha)
    simpa using h a this
  · intro h a ha
    obtain ⟨j, hj⟩ := List.getElem?_of_mem ha
    rw [List.getElem?_take] at hj
    by_cases hji : j < i
    · rw [if_pos hji] at hj; simpa using h j a hji hj
    · rw [if_neg hji] at hj; cases hj
theorem ims_iff (l : List Ms) : firstF (imAt l) 0 l.length = 0 ↔ msOk l := by
  rw [firstF_iff]
  unfold msOk
  rw [pair_idx]
  constructor
  · intro h
    have h1 : ∀ (i : Nat) (m : Ms), l[i]? = some m → ((l.take i).any fun o => decide (o.fRef = m.fRef)) = false ∧ imF m false = 0 := by
      intro i m hm
      have := h i (get_le hm)
      unfold imAt at this
      rw [hm] at this
      exact imN_tw this
    refine ⟨fun m hm => ?_, fun i j a b hi hj hij => ?_⟩
    · obtain ⟨i, hi⟩ := List.getElem?_of_mem hm; exact (h1 i m hi).2
    · have := take_any_false.1 (h1 j b hj).1 i a hij hi
      simpa using this
  · rintro ⟨h1, h2⟩ j hj
    obtain ⟨m, hm⟩ := get_lt hj
    unfold imAt
    rw [hm]
    have : ((l.take j).any fun o => decide (o.fRef = m.fRef)) = false := take_any_false.2 fun i a hij ha => by simpa using h2 i j a m ha hm hij
    simp only [this]
    exact h1 m (List.mem_of_getElem? hm)
def gpOk (g : Gp) : Prop := isRef g.fRef = true ∧ nameF g.fKind = true ∧ msOk g.fMessages
theorem igs_iff (l : List Gp) : firstF (igAt l) 0 l.length = 0 ↔ (∀ g ∈ l, gpOk g) ∧ refsD l := by
  rw [firstF_iff]
  unfold refsD
  rw [pair_idx]
  constructor
  · intro h
    have h1 : ∀ (i : Nat) (g : Gp), l[i]? = some g → ((l.take i).any fun o => decide (o.fRef = g.fRef)) = false ∧ gpOk g := by
      intro i g hg
      have := h i (get_le hg)
      unfold igAt at this
      rw [hg] at this
      obtain ⟨k1, k2, k3, k4⟩ := igN_tw this
      exact ⟨k1, k2, k3, (ims_iff _).1 k4⟩
    refine ⟨fun g hg => ?_, fun i j a b hi hj hij => ?_⟩
    · obtain ⟨i, hi⟩ := List.getElem?_of_mem hg; exact (h1 i g hi).2
    · have := take_any_false.1 (h1 j b hj).1 i a hij hi
      simpa using this
  · rintro ⟨h1, h2⟩ j hj
    obtain ⟨g, hg⟩ := get_lt hj
    unfold igAt
    rw [hg]
    have : ((l.take j).any fun o => decide (o.fRef = g.fRef)) = false := take_any_false.2 fun i a hij ha => by simpa using h2 i j a g ha hg hij
    simp only [this]
    obtain ⟨k1, k2, k3⟩ := h1 g (List.mem_of_getElem? hg)
    unfold igF igN
    rw [k1, k2, (ims_iff _).2 k3]; rfl
theorem RG.ok {a b : Gp} (r : RG a b) (h : gpOk b) : gpOk a := by
  obtain ⟨h1, h2, h3, h4⟩ := h
  exact ⟨by rw [r.ref]; exact h1, by rw [r.kind]; exact h2, fun m hm => h3 m (r.sub.mem hm), h4.sublist r.sub⟩
structure IxB (G : List Gp) : Prop where
  len : G.length ≤ 1048576
  msg : ∀ g ∈ G, g.fMessages.length ≤ 1048576
  seg : ∀ g ∈ G, ∀ m ∈ g.fMessages, m.fSegments.length ≤ 1048576
theorem cntF_eq {G : List Gp} (h : IxB G) : cntF G = ((mesN G : Int), (sgN G : Int)) := by
  have h1 : mesN G ≤ G.length * 1048576 := sumN_bound _ _ h.msg
  have h2 : sumN sgG G ≤ G.length * (2 + 1048576 * 1048578) := sumN_bound _ _ fun g hg => by
    have := sumN_bound sgM 1048578 (l := g.fMessages) fun m hm => by have := h.seg g hg m hm; unfold sgM; omega
    have h3 := h.msg g hg
    have h4 : g.fMessages.length * 1048578 ≤ 1048576 * 1048578 := Nat.mul_le_mul_right _ h3
    unfold sgG; omega
  have h3 := h.len
  have := cnt_eq G 0 2 (by omega) (by omega)
  unfold cntF sgN
  simp only [Nat.zero_add] at this
  exact this
/-- An interchange is right. -/
structure IxF (x : Ix) : Prop where
  ref : isRef x.fRef = true
  head : (!nameF x.fSender || !nameF x.fReceiver) = false ∧ (outside x.fDay 1 3652059 || outside x.fSecond 0 86399) = false
  len : x.fGroups.length ≤ 50
  grp : (∀ g ∈ x.fGroups, gpOk g) ∧ refsD x.fGroups
  mes : mesN x.fGroups ≤ 200
  seg : sgN x.fGroups ≤ 2000
theorem ci_iff {x : Ix} (h : IxB x.fGroups) : ciF x = 0 ↔ IxF x := by
  unfold ciF ciN
  rw [cntF_eq h]
  constructor
  · intro hz
    cases h1 : isRef x.fRef with
    | false => simp [h1] at hz
    | true =>
    cases h2 : (!nameF x.fSender || !nameF x.fReceiver) with
    | true => simp only [h1, h2] at hz; cases hz
    | false =>
    cases h3 : (outside x.fDay 1 3652059 || outside x.fSecond 0 86399) with
    | true => simp only [h1, h2, h3] at hz; cases hz
    | false =>
    cases h4 : decide (50 < x.fGroups.length) with
    | true => simp only [h1, h2, h3, h4] at hz; cases hz
    | false =>
    simp only [h1, h2, h3, h4, Bool.not_true, cond_false] at hz
    by_cases h5 : firstF (igAt x.fGroups) 0 x.fGroups.length = 0
    · rw [if_pos h5] at hz
      cases h6 : (decide ((200 : Int) < (mesN x.fGroups : Int)) || decide ((2000 : Int) < (sgN x.fGroups : Int))) with
      | true => rw [h6] at hz; cases hz
      | false =>
        simp only [Bool.or_eq_false_iff, decide_eq_false_iff_not] at h6
        exact ⟨h1, ⟨h2, h3⟩, by simpa using h4, (igs_iff _).1 h5, by omega, by omega⟩
    · rw [if_neg h5] at hz; exact absurd hz h5
  · rintro ⟨h1, ⟨h2, h3⟩, h4, h5, h6, h7⟩
    rw [h1, h2, h3, (igs_iff _).2 h5, decide_eq_false (by omega), decide_eq_false (by omega), decide_eq_false (by omega)]
    rfl
theorem IxB.sub {gs G : List Gp} (h : SubG gs G) (hb : IxB G) : IxB gs := by
  refine ⟨Nat.le_trans h.len hb.len, fun g hg => ?_, fun g hg m hm => ?_⟩
  · obtain ⟨g', h1, r⟩ := h.mem g hg; exact Nat.le_trans r.sub.length_le (hb.msg g' h1)
  · obtain ⟨g', h1, r⟩ := h.mem g hg; exact hb.seg g' h1 m (r.sub.mem hm)
end Go.Proofs.YthcfbglbjipdaaaGreatDoor

/-
  Plain laws of interchanges: what Merge puts together.
-/
namespace Go.Proofs.YthcfbglbjipdaaaGreatDoor
set_option linter.unusedSimpArgs false
set_option linter.unusedVariables false
open Go.RowKit

/-- A group is put behind the others, or into the last one. -/
def hitB (b : Bool) (acc : List Gp) (g : Gp) : Bool := match acc[acc.length - 1]? with
  | some e => b && decide (e.fRef = g.fRef) && decide (e.fKind = g.fKind)
  | none => false
def lastM (acc : List Gp) (ms : List Ms) : List Gp := match acc[acc.length - 1]? with
  | some e => acc.set (acc.length - 1) ⟨e.fRef, e.fKind, e.fMessages ++ ms⟩
  | none => acc
def put (b : Bool) (acc : List Gp) (g : Gp) : List Gp := bif hitB b acc g then lastM acc g.fMessages else acc ++ [g]
def mrg (b : Bool) (acc : List Gp) : List Gp → List Gp
  | [] => acc
  | g :: t => put b acc g ++ t
theorem last_snoc {α : Type} (a : List α) (e : α) : (a ++ [e])[(a ++ [e]).length - 1]? = some e := by simp
theorem set_snoc {α : Type} (a : List α) (e e' : α) : (a ++ [e]).set ((a ++ [e]).length - 1) e' = a ++ [e'] := by simp [List.set_append]
theorem lastM_snoc (a : List Gp) (e : Gp) (ms : List Ms) : lastM (a ++ [e]) ms = a ++ [⟨e.fRef, e.fKind, e.fMessages ++ ms⟩] := by
  unfold lastM; rw [last_snoc]; exact set_snoc _ _ _
theorem hitB_snoc (b : Bool) (a : List Gp) (e g : Gp) : hitB b (a ++ [e]) g = (b && decide (e.fRef = g.fRef) && decide (e.fKind = g.fKind)) := by
  unfold hitB; rw [last_snoc]
theorem hitB_nil (b : Bool) (g : Gp) : hitB b [] g = false := rfl
theorem hitB_false (acc : List Gp) (g : Gp) : hitB false acc g = false := by unfold hitB; split <;> rfl
theorem put_false (acc : List Gp) (g : Gp) : put false acc g = acc ++ [g] := by unfold put; rw [hitB_false]; rfl
theorem mrg_false (acc : List Gp) : ∀ gs : List Gp, mrg false acc gs = acc ++ gs
  | [] => by simp [mrg]
  | g :: t => by simp [mrg, put_false]
theorem mrg_snoc (b : Bool) (acc : List Gp) {gs : List Gp} (h : gs ≠ []) (g : Gp) : mrg b acc (gs ++ [g]) = mrg b acc gs ++ [g] := by
  cases gs with
  | nil => exact absurd rfl h
  | cons x t => simp [mrg]
theorem snoc_cases {α : Type} (l : List α) : l = [] ∨ ∃ a e, l = a ++ [e] := by
  rcases List.eq_nil_or_concat l with h | ⟨a, e, h⟩
  · exact .inl h
  · exact .inr ⟨a, e, by simpa using h⟩
theorem put_len (b : Bool) (acc : List Gp) (g : Gp) : (put b acc g).length ≤ acc.length + 1 := by
  unfold put
  cases hitB b acc g with
  | false => simp
  | true =>
    simp only [cond_true]
    rcases snoc_cases acc with rfl | ⟨a, e, rfl⟩
    · simp [lastM]
    · rw [lastM_snoc]; simp
theorem mrg_len (b : Bool) (acc : List Gp) : ∀ gs : List Gp, (mrg b acc gs).length ≤ acc.length + gs.length
  | [] => by simp [mrg]
  | g :: t => by have := put_len b acc g; simp only [mrg, List.length_append, List.length_cons]; omega
theorem put_sub (b : Bool) (acc : List Gp) (g : Gp) : SubG acc (put b acc g) ∧ SubG [g] (put b acc g) := by
  unfold put
  cases h : hitB b acc g with
  | false => exact ⟨(SubG.refl acc).app _, (SubG.refl [g]).pre _⟩
  | true =>
    simp only [cond_true]
    rcases snoc_cases acc with rfl | ⟨a, e, rfl⟩
    · cases h
    · rw [lastM_snoc]
      rw [hitB_snoc] at h
      simp only [Bool.and_eq_true, decide_eq_true_eq] at h
      exact ⟨(SubG.refl a).both (.cons ⟨rfl, rfl, List.sublist_append_left _ _⟩ .nil), SubG.pre (SubG.cons (a := g) (b := ⟨e.fRef, e.fKind, e.fMessages ++ g.fMessages⟩) (gs := []) (G := []) ⟨h.1.2.symm, h.2.symm, List.sublist_append_right _ _⟩ SubG.nil) a⟩
theorem mrg_sub (b : Bool) (acc : List Gp) : ∀ gs : List Gp, SubG acc (mrg b acc gs) ∧ SubG gs (mrg b acc gs)
  | [] => ⟨SubG.refl _, .nil⟩
  | g :: t => by
    obtain ⟨h1, h2⟩ := put_sub b acc g
    exact ⟨h1.app _, h2.both (SubG.refl t)⟩
theorem lastM_mes {acc : List Gp} (h : acc ≠ []) (ms : List Ms) : mesN (lastM acc ms) = mesN acc + ms.length := by
  rcases snoc_cases acc with rfl | ⟨a, e, rfl⟩
  · exact absurd rfl h
  · rw [lastM_snoc]
    unfold mesN
    simp only [sumN_app, sumN, List.length_append]; omega
theorem put_mes (b : Bool) (acc : List Gp) (g : Gp) : mesN (put b acc g) = mesN acc + g.fMessages.length := by
  unfold put
  cases h : hitB b acc g with
  | false => unfold mesN; simp only [cond_false, sumN_app, sumN]; omega
  | true =>
    simp only [cond_true]
    refine lastM_mes (fun e => ?_) _
    subst e; cases h
theorem mrg_mes (b : Bool) (acc : List Gp) : ∀ gs : List Gp, mesN (mrg b acc gs) = mesN acc + mesN gs
  | [] => by simp [mrg, mesN, sumN]
  | g :: t => by
    have := put_mes b acc g
    have e : mesN (mrg b acc (g :: t)) = mesN (put b acc g) + mesN t := by unfold mesN; simp only [mrg, sumN_app]
    have e2 : mesN (g :: t) = g.fMessages.length + mesN t := rfl
    omega
/-- All parts together. -/
def MA : List Ix → List Gp
  | [] => []
  | p :: t => t.foldl (fun a q => mrg true a q.fGroups) p.fGroups
theorem MA_snoc (l : List Ix) (p : Ix) : MA (l ++ [p]) = mrg (decide (0 < l.length)) (MA l) p.fGroups := by
  cases l with
  | nil => simp [MA, mrg_false]
  | cons x t => simp [MA, List.foldl_append]
theorem snoc_ind {α : Type} {P : List α → Prop} (h0 : P []) (h1 : ∀ l a, P l → P (l ++ [a])) (l : List α) : P l := by
  have : ∀ n (l : List α), l.length = n → P l := by
    intro n
    induction n with
    | zero => intro l hl; rw [List.length_eq_zero_iff.1 hl]; exact h0
    | succ n ih =>
      intro l hl
      rcases snoc_cases l with rfl | ⟨a, e, rfl⟩
      · cases hl
      · exact h1 a e (ih a (by simpa using hl))
  exact this _ l rfl
theorem MA_sub (l : List Ix) : ∀ p ∈ l, SubG p.fGroups (MA l) := by
  refine snoc_ind (P := fun l => ∀ p ∈ l, SubG p.fGroups (MA l)) (fun p hp => by cases hp) (fun l a ih p hp => ?_) l
  rw [MA_snoc]
  obtain ⟨h1, h2⟩ := mrg_sub (decide (0 < l.length)) (MA l) a.fGroups
  rcases List.mem_append.1 hp with hp | hp
  · exact (ih p hp).trans h1
  · rw [List.mem_singleton.1 hp]; exact h2
theorem MA_mes (l : List Ix) : mesN (MA l) = sumN (fun p => mesN p.fGroups) l := by
  refine snoc_ind (P := fun l => mesN (MA l) = sumN (fun p => mesN p.fGroups) l) rfl (fun l a ih => ?_) l
  rw [MA_snoc, mrg_mes, ih, sumN_app]
  simp [sumN]
theorem MA_len (l : List Ix) : (MA l).length ≤ sumN (fun p => p.fGroups.length) l := by
  refine snoc_ind (P := fun l => (MA l).length ≤ sumN (fun p => p.fGroups.length) l) (Nat.le_refl _) (fun l a ih => ?_) l
  rw [MA_snoc, sumN_app]
  have := mrg_len (decide (0 < l.length)) (MA l) a.fGroups
  simp only [sumN]
  omega
end Go.Proofs.YthcfbglbjipdaaaGreatDoor

/-
  Plain laws of interchanges: Merge.
-/
namespace Go.Proofs.YthcfbglbjipdaaaGreatDoor
set_option linter.unusedSimpArgs false
set_option linter.unusedVariables false
open Go.RowKit

theorem clone_msgs (l : List Ms) (h : l.length ≤ 137438953472) : m_slices_Clone_interchange_api_Message_interchange_api_Message l = some l := if_pos h
theorem andO_ff (x : Option Bool) : andO false x = some false := rfl
theorem set_self {α : Type} {l : List α} {j : Nat} {m : α} (h : l[j]? = some m) : l.set j m = l := by
  obtain ⟨h1, rfl⟩ := List.getElem?_eq_some_iff.1 h
  exact List.set_getElem_self h1
theorem wrap_last (n : Nat) (h : n ≤ 1099511627776) : IntKind.i64.wrap (((n + 1 : Nat) : Int) - 1) = (n : Int) := by rw [wrap64 _ (by omega) (by omega)]; omega
theorem getI_last {α : Type} (a : List α) (e : α) : getI (a ++ [e]) (a.length : Int) = some e := by rw [getI_nat]; simp
theorem set_at {α : Type} (a : List α) (e e' : α) : (a ++ [e]).set a.length e' = a ++ [e'] := by simp [List.set_append]
theorem put_step {R : Type} (b c : Bool) (acc : List Gp) (r k : List UInt8) (ms : List Ms) (n : Nat) (hn : n ≤ 1) (hl : acc.length ≤ 1073741824) (hm : ∀ e ∈ acc, e.fMessages.length + ms.length ≤ 137438953472) (F : List Gp → R) :
    ((andO b (some c)).bind fun v => (andO v (some (decide ((0 : Int) ≤ IntKind.i64.wrap ((acc.length : Int) - 1))))).bind fun v =>
      (andO v ((getI acc (IntKind.i64.wrap ((acc.length : Int) - 1))).bind fun e => some (decide (e.fRef = r)))).bind fun v =>
      (andO v ((getI acc (IntKind.i64.wrap ((acc.length : Int) - 1))).bind fun e => some (decide (e.fKind = k)))).bind fun v =>
      bif v then (getI acc (IntKind.i64.wrap ((acc.length : Int) - 1))).bind fun x => (getI acc (IntKind.i64.wrap ((acc.length : Int) - 1))).bind fun e => thenO (lenO (x.fMessages.length + ms.length)) ((getI acc (IntKind.i64.wrap ((acc.length : Int) - 1))).bind fun e =>
        some (F (acc.set (IntKind.i64.wrap ((acc.length : Int) - 1)).toNat ⟨x.fRef, x.fKind, x.fMessages ++ ms⟩)))
      else thenO (lenO (acc.length + n)) (some (F (acc ++ [⟨r, k, ms⟩])))) = some (F (put (b && c) acc ⟨r, k, ms⟩)) := by
  rcases snoc_cases acc with rfl | ⟨a, e, rfl⟩
  · have e1 : decide ((0 : Int) ≤ IntKind.i64.wrap (((([] : List Gp).length : Nat) : Int) - 1)) = false := by decide
    simp only [e1, andO_some, Option.bind_some, Bool.and_false, andO_ff, cond_false]
    rw [thenO_ok (by simp only [List.length_nil]; omega)]
    unfold put
    rw [hitB_nil]; rfl
  · have hlen : (a ++ [e]).length = a.length + 1 := by simp
    have hl' : a.length ≤ 1099511627776 := by omega
    simp only [hlen, wrap_last _ hl', getI_last, Option.bind_some, andO_some, Int.toNat_natCast]
    rw [decide_eq_true (Int.natCast_nonneg _), Bool.and_true]
    unfold put
    rw [hitB_snoc, lastM_snoc]
    have hm' := hm e (by simp)
    cases hh : (b && c && decide (e.fRef = r) && decide (e.fKind = k)) with
    | true => 
      simp only [cond_true]
      rw [thenO_ok hm', set_at]
    | false => simp only [cond_false]; rw [thenO_ok (by omega)]
theorem mrg_step (b : Bool) (acc gs : List Gp) {k : Nat} (hk : gs.length = k) (g : Gp) : put (b && decide ((k : Int) = 0)) (mrg b acc gs) g = mrg b acc (gs ++ [g]) := by
  subst hk
  cases gs with
  | nil => simp [mrg]
  | cons x t =>
    rw [mrg_snoc b acc (by simp)]
    rw [show decide ((((x :: t).length : Nat) : Int) = 0) = false from decide_eq_false (by simp only [List.length_cons]; omega), Bool.and_false, put_false]
def zIx : Ix := ⟨[], [], [], 0, 0, false, []⟩
theorem mes_mem {G : List Gp} : ∀ e ∈ G, e.fMessages.length ≤ mesN G := by
  induction G with
  | nil => intro e he; cases he
  | cons x t ih =>
    intro e he
    have e2 : mesN (x :: t) = x.fMessages.length + mesN t := rfl
    rcases List.mem_cons.1 he with rfl | he
    · omega
    · have := ih e he; omega
theorem sum_le {α : Type} (f : α → Nat) (c n : Nat) {l : List α} (hn : l.length ≤ n) (h : ∀ x ∈ l, f x ≤ c) : sumN f l ≤ n * c := Nat.le_trans (sumN_bound f c h) (Nat.mul_le_mul_right _ hn)
structure PtOk (p : Ix) : Prop where
  len : p.fGroups.length ≤ 50
  grp : ∀ g ∈ p.fGroups, g.fMessages.length ≤ 1048576 ∧ ∀ m ∈ g.fMessages, SegsOk m.fSegments
theorem PtOk.mes {p : Ix} (h : PtOk p) : mesN p.fGroups ≤ 50 * 1048576 := sum_le _ _ _ h.len fun g hg => (h.grp g hg).1
theorem MA_small {l : List Ix} (hl : l.length ≤ 200) (h : ∀ p ∈ l, PtOk p) : (MA l).length ≤ 200 * 50 ∧ mesN (MA l) ≤ 200 * (50 * 1048576) := by
  refine ⟨Nat.le_trans (MA_len l) (sum_le _ _ _ hl fun p hp => (h p hp).len), ?_⟩
  rw [MA_mes]
  exact sum_le _ _ _ hl fun p hp => (h p hp).mes
end Go.Proofs.YthcfbglbjipdaaaGreatDoor
