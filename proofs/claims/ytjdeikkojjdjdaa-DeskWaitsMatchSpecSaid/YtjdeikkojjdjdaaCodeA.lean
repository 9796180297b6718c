/-
  The bodies of some functions in the engine's form, printed by a program of mine (wip/tool/sc.py) out of the translation; each is held against the translation by the kernel.
-/
import Derived.Test.YtjdeikkojjdjdaaEngL
import Derived.Test.YtjdeikkojjdjdaaProg
import Derived.KernelRfl
namespace Go.Proofs.Ytjdeikkojjdjdaa

/-- interchange/kit.Outside -/
def sc_kit_Outside : SC :=
  (.seq (.reg [.r 6 (.mv (.c (.d (.bool false))))])
  (.seq (.reg [.r 7 (.mv (.t 0)),
     .r 8 (.mv (.t 1)),
     .r 9 (.bin .lss (.t 7) (.t 8)),
     .r 10 (.mv (.t 9)),
     .g 10 false (some 11) (.r 11 (.mv (.t 0))),
     .g 10 false (some 12) (.r 12 (.mv (.t 2))),
     .g 10 false (some 13) (.r 13 (.bin .gtr (.t 11) (.t 12))),
     .r 14 (.pick (.t 10) (.c (.d (.bool true))) (.t 13)),
     .r 6 (.mv (.t 14))])
  .ret))
theorem fit_kit_Outside : fits Try.prog 14 Try.f14 sc_kit_Outside [.t 6] 3 = true := by kernel_rfl

/-- interchange/interchangeref12.in -/
def sc_interchangeref12_in : SC :=
  (.seq (.reg [.r 6 (.mv (.c (.d (.bool false))))])
  (.seq (.reg [.r 7 (.mv (.t 1)),
     .r 8 (.mv (.t 0)),
     .r 9 (.bin .leq (.t 7) (.t 8)),
     .r 10 (.mv (.t 9)),
     .g 10 true (some 11) (.r 11 (.mv (.t 0))),
     .g 10 true (some 12) (.r 12 (.mv (.t 2))),
     .g 10 true (some 13) (.r 13 (.bin .leq (.t 11) (.t 12))),
     .r 14 (.pick (.t 10) (.t 13) (.c (.d (.bool false)))),
     .r 6 (.mv (.t 14))])
  .ret))
theorem fit_interchangeref12_in : fits Try.prog 15 Try.f15 sc_interchangeref12_in [.t 6] 3 = true := by kernel_rfl

/-- interchange/desk.CheckPolicy -/
def sc_desk_CheckPolicy : SC :=
  (.seq (.reg [.r 1 (.boxI (.t 0)),
     .r 2 (.mv (.c (.d (.int .i64 0))))])
  (.seq (.seq (.reg [.r 3 (.fld 0 (.t 1)),
     .r 4 (.ld1 (.t 3)),
     .c 5 (.f 14) [.t 4, .c (.d (.int .i64 1)), .c (.d (.int .i64 1000000))],
     .r 6 (.mv (.t 5)),
     .g 6 false (some 7) (.r 7 (.fld 1 (.t 1))),
     .g 6 false (some 8) (.r 8 (.ld1 (.t 7))),
     .g 6 false (some 9) (.c 9 (.f 14) [.t 8, .c (.d (.int .i64 1)), .c (.d (.int .i64 10))]),
     .r 10 (.pick (.t 6) (.c (.d (.bool true))) (.t 9)),
     .r 11 (.mv (.t 10)),
     .g 11 false (some 12) (.r 12 (.fld 2 (.t 1))),
     .g 11 false (some 13) (.r 13 (.ld1 (.t 12))),
     .g 11 false (some 14) (.r 14 (.fld 0 (.t 1))),
     .g 11 false (some 15) (.r 15 (.ld1 (.t 14))),
     .g 11 false (some 16) (.c 16 (.f 14) [.t 13, .t 15, .c (.d (.int .i64 1000000))]),
     .r 17 (.pick (.t 11) (.c (.d (.bool true))) (.t 16)),
     .r 18 (.mv (.t 17)),
     .g 18 false (some 19) (.r 19 (.fld 3 (.t 1))),
     .g 18 false (some 20) (.r 20 (.ld1 (.t 19))),
     .g 18 false (some 21) (.c 21 (.f 14) [.t 20, .c (.d (.int .i64 1)), .c (.d (.int .i64 20))]),
     .r 22 (.pick (.t 18) (.c (.d (.bool true))) (.t 21))])
  (.cond (.t 22)
    (.seq (.reg [.r 2 (.mv (.c (.d (.int .i64 1))))])
    .ret)
    .skip))
  (.seq (.reg [.r 2 (.mv (.c (.d (.int .i64 0))))])
  .ret)))
theorem fit_desk_CheckPolicy : fits Try.prog 6 Try.f6 sc_desk_CheckPolicy [.t 2] 1 = true := by kernel_rfl

/-- interchange/interchangeref12.CheckPolicy -/
def sc_interchangeref12_CheckPolicy : SC :=
  (.seq (.reg [.r 1 (.boxI (.t 0)),
     .r 2 (.mv (.c (.d (.int .i64 0))))])
  (.seq (.seq (.reg [.r 3 (.fld 0 (.t 1)),
     .r 4 (.ld1 (.t 3)),
     .c 5 (.f 15) [.t 4, .c (.d (.int .i64 1)), .c (.d (.int .i64 1000000))],
     .r 6 (.not (.t 5)),
     .r 7 (.mv (.t 6)),
     .g 7 false (some 8) (.r 8 (.fld 1 (.t 1))),
     .g 7 false (some 9) (.r 9 (.ld1 (.t 8))),
     .g 7 false (some 10) (.c 10 (.f 15) [.t 9, .c (.d (.int .i64 1)), .c (.d (.int .i64 10))]),
     .g 7 false (some 11) (.r 11 (.not (.t 10))),
     .r 12 (.pick (.t 7) (.c (.d (.bool true))) (.t 11)),
     .r 13 (.mv (.t 12)),
     .g 13 false (some 14) (.r 14 (.fld 2 (.t 1))),
     .g 13 false (some 15) (.r 15 (.ld1 (.t 14))),
     .g 13 false (some 16) (.r 16 (.fld 0 (.t 1))),
     .g 13 false (some 17) (.r 17 (.ld1 (.t 16))),
     .g 13 false (some 18) (.c 18 (.f 15) [.t 15, .t 17, .c (.d (.int .i64 1000000))]),
     .g 13 false (some 19) (.r 19 (.not (.t 18))),
     .r 20 (.pick (.t 13) (.c (.d (.bool true))) (.t 19)),
     .r 21 (.mv (.t 20)),
     .g 21 false (some 22) (.r 22 (.fld 3 (.t 1))),
     .g 21 false (some 23) (.r 23 (.ld1 (.t 22))),
     .g 21 false (some 24) (.c 24 (.f 15) [.t 23, .c (.d (.int .i64 1)), .c (.d (.int .i64 20))]),
     .g 21 false (some 25) (.r 25 (.not (.t 24))),
     .r 26 (.pick (.t 21) (.c (.d (.bool true))) (.t 25))])
  (.cond (.t 26)
    (.seq (.reg [.r 2 (.mv (.c (.d (.int .i64 1))))])
    .ret)
    .skip))
  (.seq (.reg [.r 2 (.mv (.c (.d (.int .i64 0))))])
  .ret)))
theorem fit_interchangeref12_CheckPolicy : fits Try.prog 7 Try.f7 sc_interchangeref12_CheckPolicy [.t 2] 1 = true := by kernel_rfl

/-- interchange/desk.waits -/
def sc_desk_waits : SC :=
  (.seq (.reg [.r 1 (.boxI (.t 0)),
     .r 2 (.mv (.c (.nils)))])
  (.seq (.reg [.r 3 (.mv (.c (.nils)))])
  (.seq (.reg [.r 5 (.fld 0 (.t 1)),
     .r 6 (.ld1 (.t 5)),
     .r 4 (.mv (.t 6))])
  (.seq (.seq (.reg [.r 7 (.fld 3 (.t 1)),
     .r 8 (.ld1 (.t 7)),
     .r 9 (.bin .sub (.t 8) (.c (.d (.int .i64 1)))),
     .r 10 (.mv (.c (.d (.int .i64 0))))])
  (.block 0 (.gh (.vecnil 3 15 3 1) (.loop (.seq (.reg [.r 11 (.bin .lss (.t 10) (.t 9))])
      (.seq (.cond (.t 11)
        .skip
        (.exit 0))
      (.seq (.block 1 (.seq (.reg [.r 12 (.mv (.t 3)),
           .r 13 (.mv (.t 4)),
           .r 14 (.bslice 1 [.t 13]),
           .w 15 (.app 3 1 (.t 12) (.t 14)),
           .r 3 (.mv (.t 15))])
        (.reg [.r 16 (.mv (.t 4)),
           .r 17 (.fld 1 (.t 1)),
           .r 18 (.ld1 (.t 17)),
           .r 19 (.bin .mul (.t 16) (.t 18)),
           .r 20 (.fld 2 (.t 1)),
           .r 21 (.ld1 (.t 20)),
           .r 22 (.mins (.t 19) [.t 21]),
           .r 4 (.mv (.t 22))])))
      (.reg [.r 23 (.bin .add (.t 10) (.c (.d (.int .i64 1)))),
         .r 10 (.mv (.t 23))]))))))))
  (.seq (.reg [.r 24 (.mv (.t 3)),
     .r 2 (.mv (.t 24))])
  .ret)))))
theorem fit_desk_waits : fits Try.prog 12 Try.f12 sc_desk_waits [.t 2] 1 = true := by kernel_rfl

/-- interchange/interchangeref12.waits -/
def sc_interchangeref12_waits : SC :=
  (.seq (.reg [.r 1 (.boxI (.t 0)),
     .r 2 (.mv (.c (.nils)))])
  (.seq (.reg [.r 3 (.mv (.c (.nils)))])
  (.seq (.reg [.r 5 (.fld 0 (.t 1)),
     .r 6 (.ld1 (.t 5)),
     .r 4 (.mv (.t 6))])
  (.seq (.seq (.reg [.r 7 (.fld 3 (.t 1)),
     .r 8 (.ld1 (.t 7)),
     .r 9 (.bin .sub (.t 8) (.c (.d (.int .i64 1)))),
     .r 10 (.mv (.c (.d (.int .i64 0))))])
  (.block 0 (.gh (.vecnil 3 15 3 1) (.loop (.seq (.reg [.r 11 (.bin .lss (.t 10) (.t 9))])
      (.seq (.cond (.t 11)
        .skip
        (.exit 0))
      (.seq (.block 1 (.seq (.reg [.r 12 (.mv (.t 3)),
           .r 13 (.mv (.t 4)),
           .r 14 (.bslice 1 [.t 13]),
           .w 15 (.app 3 1 (.t 12) (.t 14)),
           .r 3 (.mv (.t 15))])
        (.reg [.r 16 (.fld 2 (.t 1)),
           .r 17 (.ld1 (.t 16)),
           .r 18 (.mv (.t 4)),
           .r 19 (.fld 1 (.t 1)),
           .r 20 (.ld1 (.t 19)),
           .r 21 (.bin .mul (.t 18) (.t 20)),
           .r 22 (.mins (.t 17) [.t 21]),
           .r 4 (.mv (.t 22))])))
      (.reg [.r 23 (.bin .add (.t 10) (.c (.d (.int .i64 1)))),
         .r 10 (.mv (.t 23))]))))))))
  (.seq (.reg [.r 24 (.mv (.t 3)),
     .r 2 (.mv (.t 24))])
  .ret)))))
theorem fit_interchangeref12_waits : fits Try.prog 13 Try.f13 sc_interchangeref12_waits [.t 2] 1 = true := by kernel_rfl

/-- interchange/desk.Waits -/
def sc_desk_Waits : SC :=
  (.seq (.reg [.r 1 (.boxI (.t 0)),
     .r 2 (.mv (.c (.nils))),
     .r 3 (.mv (.c (.d (.int .i64 0))))])
  (.seq (.seq (.reg [.r 5 (.ldA 5 (.t 1)),
     .c 6 (.f 6) [.t 5],
     .r 4 (.mv (.t 6))])
  (.seq (.reg [.r 7 (.mv (.t 4)),
     .r 8 (.bin .neq (.t 7) (.c (.d (.int .i64 0))))])
  (.cond (.t 8)
    (.seq (.reg [.r 9 (.mv (.t 4)),
       .r 2 (.mv (.c (.nils))),
       .r 3 (.mv (.t 9))])
    .ret)
    .skip)))
  (.seq (.reg [.r 10 (.ldA 5 (.t 1)),
     .c 11 (.f 12) [.t 10],
     .r 2 (.mv (.t 11)),
     .r 3 (.mv (.c (.d (.int .i64 0))))])
  .ret)))
theorem fit_desk_Waits : fits Try.prog 4 Try.f4 sc_desk_Waits [.t 2, .t 3] 1 = true := by kernel_rfl

/-- interchange/interchangeref12.Waits -/
def sc_interchangeref12_Waits : SC :=
  (.seq (.reg [.r 1 (.boxI (.t 0)),
     .r 2 (.mv (.c (.nils))),
     .r 3 (.mv (.c (.d (.int .i64 0))))])
  (.seq (.seq (.reg [.r 5 (.ldA 5 (.t 1)),
     .c 6 (.f 7) [.t 5],
     .r 4 (.mv (.t 6))])
  (.seq (.reg [.r 7 (.mv (.t 4)),
     .r 8 (.bin .neq (.t 7) (.c (.d (.int .i64 0))))])
  (.cond (.t 8)
    (.seq (.reg [.r 9 (.mv (.t 4)),
       .r 2 (.mv (.c (.nils))),
       .r 3 (.mv (.t 9))])
    .ret)
    .skip)))
  (.seq (.reg [.r 10 (.ldA 5 (.t 1)),
     .c 11 (.f 13) [.t 10],
     .r 2 (.mv (.t 11)),
     .r 3 (.mv (.c (.d (.int .i64 0))))])
  .ret)))
theorem fit_interchangeref12_Waits : fits Try.prog 5 Try.f5 sc_interchangeref12_Waits [.t 2, .t 3] 1 = true := by kernel_rfl

/-- interchange/desk.Patience -/
def sc_desk_Patience : SC :=
  (.seq (.reg [.r 1 (.boxI (.t 0)),
     .r 2 (.mv (.c (.d (.int .i64 0)))),
     .r 3 (.mv (.c (.d (.int .i64 0))))])
  (.seq (.seq (.reg [.r 8 (.ldA 5 (.t 1)),
     .c 9 (.f 6) [.t 8],
     .r 4 (.mv (.t 9))])
  (.seq (.reg [.r 10 (.mv (.t 4)),
     .r 11 (.bin .neq (.t 10) (.c (.d (.int .i64 0))))])
  (.cond (.t 11)
    (.seq (.reg [.r 12 (.mv (.t 4)),
       .r 2 (.mv (.c (.d (.int .i64 0)))),
       .r 3 (.mv (.t 12))])
    .ret)
    .skip)))
  (.seq (.reg [.r 5 (.mv (.c (.d (.int .i64 0))))])
  (.seq (.seq (.reg [.r 13 (.ldA 5 (.t 1)),
     .c 14 (.f 12) [.t 13],
     .r 15 (.len (.t 14)),
     .r 16 (.mv (.c (.d (.int .i64 0))))])
  (.block 0 (.loop (.seq (.reg [.r 17 (.bin .lss (.t 16) (.t 15))])
      (.seq (.cond (.t 17)
        .skip
        (.exit 0))
      (.seq (.block 1 (.seq (.reg [.r 18 (.idx 1 (.t 14) (.t 16)),
           .r 19 (.ld1 (.t 18)),
           .r 7 (.mv (.t 19))])
        (.reg [.r 20 (.mv (.t 5)),
           .r 21 (.mv (.t 7)),
           .r 22 (.bin .add (.t 20) (.t 21)),
           .r 5 (.mv (.t 22))])))
      (.reg [.r 23 (.bin .add (.t 16) (.c (.d (.int .i64 1)))),
         .r 16 (.mv (.t 23))])))))))
  (.seq (.reg [.r 24 (.mv (.t 5)),
     .r 2 (.mv (.t 24)),
     .r 3 (.mv (.c (.d (.int .i64 0))))])
  .ret)))))
theorem fit_desk_Patience : fits Try.prog 9 Try.f9 sc_desk_Patience [.t 2, .t 3] 1 = true := by kernel_rfl

/-- interchange/interchangeref12.Patience -/
def sc_interchangeref12_Patience : SC :=
  (.seq (.reg [.r 1 (.boxI (.t 0)),
     .r 2 (.mv (.c (.d (.int .i64 0)))),
     .r 3 (.mv (.c (.d (.int .i64 0))))])
  (.seq (.seq (.reg [.r 8 (.ldA 5 (.t 1)),
     .c 9 (.f 7) [.t 8],
     .r 4 (.mv (.t 9))])
  (.seq (.reg [.r 10 (.mv (.t 4)),
     .r 11 (.bin .neq (.t 10) (.c (.d (.int .i64 0))))])
  (.cond (.t 11)
    (.seq (.reg [.r 12 (.mv (.t 4)),
       .r 2 (.mv (.c (.d (.int .i64 0)))),
       .r 3 (.mv (.t 12))])
    .ret)
    .skip)))
  (.seq (.reg [.r 5 (.mv (.c (.d (.int .i64 0))))])
  (.seq (.seq (.reg [.r 13 (.ldA 5 (.t 1)),
     .c 14 (.f 13) [.t 13],
     .r 15 (.len (.t 14)),
     .r 16 (.mv (.c (.d (.int .i64 0))))])
  (.block 0 (.loop (.seq (.reg [.r 17 (.bin .lss (.t 16) (.t 15))])
      (.seq (.cond (.t 17)
        .skip
        (.exit 0))
      (.seq (.block 1 (.seq (.reg [.r 18 (.idx 1 (.t 14) (.t 16)),
           .r 19 (.ld1 (.t 18)),
           .r 7 (.mv (.t 19))])
        (.reg [.r 20 (.mv (.t 5)),
           .r 21 (.mv (.t 7)),
           .r 22 (.bin .add (.t 20) (.t 21)),
           .r 5 (.mv (.t 22))])))
      (.reg [.r 23 (.bin .add (.t 16) (.c (.d (.int .i64 1)))),
         .r 16 (.mv (.t 23))])))))))
  (.seq (.reg [.r 24 (.mv (.t 5)),
     .r 2 (.mv (.t 24)),
     .r 3 (.mv (.c (.d (.int .i64 0))))])
  .ret)))))
theorem fit_interchangeref12_Patience : fits Try.prog 10 Try.f10 sc_interchangeref12_Patience [.t 2, .t 3] 1 = true := by kernel_rfl

/-- slices.Equal[[]int,int] -/
def sc_slices_Equal_int_int : SC :=
  (.seq (.reg [.r 4 (.mv (.c (.d (.bool false))))])
  (.seq (.seq (.reg [.r 6 (.mv (.t 0)),
     .r 7 (.len (.t 6)),
     .r 8 (.mv (.t 1)),
     .r 9 (.len (.t 8)),
     .r 10 (.bin .neq (.t 7) (.t 9))])
  (.cond (.t 10)
    (.seq (.reg [.r 4 (.mv (.c (.d (.bool false))))])
    .ret)
    .skip))
  (.seq (.seq (.reg [.r 11 (.mv (.t 0)),
     .r 12 (.len (.t 11)),
     .r 13 (.mv (.c (.d (.int .i64 0))))])
  (.block 0 (.loop (.seq (.reg [.r 14 (.bin .lss (.t 13) (.t 12))])
      (.seq (.cond (.t 14)
        .skip
        (.exit 0))
      (.seq (.block 1 (.seq (.reg [.r 15 (.mv (.t 13)),
           .r 5 (.mv (.t 15))])
        (.seq (.regD [.r 16 (.mv (.t 0)),
           .r 17 (.mv (.t 5)),
           .r 18 (.idx 1 (.t 16) (.t 17)),
           .r 19 (.ld1 (.t 18)),
           .r 20 (.mv (.t 1)),
           .r 21 (.mv (.t 5)),
           .r 22 (.idx 1 (.t 20) (.t 21)),
           .r 23 (.ld1 (.t 22)),
           .r 24 (.bin .neq (.t 19) (.t 23))])
        (.cond (.t 24)
          (.seq (.reg [.r 4 (.mv (.c (.d (.bool false))))])
          .ret)
          .skip))))
      (.reg [.r 25 (.bin .add (.t 13) (.c (.d (.int .i64 1)))),
         .r 13 (.mv (.t 25))])))))))
  (.seq (.reg [.r 4 (.mv (.c (.d (.bool true))))])
  .ret))))
theorem fit_slices_Equal_int_int : fits Try.prog 8 Try.f8 sc_slices_Equal_int_int [.t 4] 2 = true := by kernel_rfl

/-- interchange/interchangelaw12.works -/
def sc_interchangelaw12_works : SC :=
  (.seq (.reg [.r 0 (.mv (.c (.d (.bool false))))])
  (.seq (.reg [.r 4 (.build [.d (.int .i64 0), .d (.int .i64 0), .d (.int .i64 0), .d (.int .i64 0), .d (.bool false)] [(0, 1, .c (.d (.int .i64 5))), (1, 1, .c (.d (.int .i64 3))), (2, 1, .c (.d (.int .i64 20))), (3, 1, .c (.d (.int .i64 4)))]),
     .c 5 (.f 4) [.t 4],
     .r 3 (.mv (.t 5)),
     .r 6 (.ext (.t 3) 0),
     .r 7 (.ext (.t 3) 1),
     .r 1 (.mv (.t 6)),
     .r 2 (.mv (.t 7))])
  (.seq (.reg [.r 8 (.mv (.t 2)),
     .r 9 (.bin .eql (.t 8) (.c (.d (.int .i64 0)))),
     .r 10 (.mv (.t 9)),
     .g 10 true (some 11) (.r 11 (.mv (.t 1))),
     .g 10 true (some 12) (.r 12 (.bslice 1 [.c (.d (.int .i64 5)), .c (.d (.int .i64 15)), .c (.d (.int .i64 20))])),
     .g 10 true (some 13) (.c 13 (.f 8) [.t 11, .t 12]),
     .r 14 (.pick (.t 10) (.t 13) (.c (.d (.bool false)))),
     .r 0 (.mv (.t 14))])
  .ret)))
theorem fit_interchangelaw12_works : fits Try.prog 11 Try.f11 sc_interchangelaw12_works [.t 0] 0 = true := by kernel_rfl

/-- interchange/interchangelaw12.DeskWaitsMatchSpec -/
def sc_interchangelaw12_DeskWaitsMatchSpec : SC :=
  (.seq (.reg [.r 1 (.boxI (.t 0)),
     .r 2 (.mv (.c (.d (.bool false))))])
  (.seq (.reg [.r 10 (.ldA 5 (.t 1)),
     .c 11 (.f 4) [.t 10],
     .r 9 (.mv (.t 11)),
     .r 12 (.ext (.t 9) 0),
     .r 13 (.ext (.t 9) 1),
     .r 3 (.mv (.t 12)),
     .r 4 (.mv (.t 13))])
  (.seq (.reg [.r 15 (.ldA 5 (.t 1)),
     .c 16 (.f 5) [.t 15],
     .r 14 (.mv (.t 16)),
     .r 17 (.ext (.t 14) 0),
     .r 18 (.ext (.t 14) 1),
     .r 5 (.mv (.t 17)),
     .r 6 (.mv (.t 18))])
  (.seq (.seq (.regD [.r 19 (.ldA 5 (.t 1)),
     .c 20 (.f 6) [.t 19],
     .r 21 (.ldA 5 (.t 1)),
     .c 22 (.f 7) [.t 21],
     .r 23 (.bin .neq (.t 20) (.t 22)),
     .r 24 (.mv (.t 23)),
     .g 24 false (some 25) (.r 25 (.mv (.t 4))),
     .g 24 false (some 26) (.r 26 (.mv (.t 6))),
     .g 24 false (some 27) (.r 27 (.bin .neq (.t 25) (.t 26))),
     .r 28 (.pick (.t 24) (.c (.d (.bool true))) (.t 27)),
     .r 29 (.mv (.t 28)),
     .g 29 false (some 30) (.r 30 (.mv (.t 3))),
     .g 29 false (some 31) (.r 31 (.mv (.t 5))),
     .g 29 false (some 32) (.c 32 (.f 8) [.t 30, .t 31]),
     .g 29 false (some 33) (.r 33 (.not (.t 32))),
     .r 34 (.pick (.t 29) (.c (.d (.bool true))) (.t 33))])
  (.cond (.t 34)
    (.seq (.reg [.r 2 (.mv (.c (.d (.bool false))))])
    .ret)
    .skip))
  (.seq (.reg [.r 36 (.ldA 5 (.t 1)),
     .c 37 (.f 9) [.t 36],
     .r 35 (.mv (.t 37)),
     .r 38 (.ext (.t 35) 0),
     .r 39 (.ext (.t 35) 1),
     .r 7 (.mv (.t 38)),
     .r 4 (.mv (.t 39))])
  (.seq (.reg [.r 41 (.ldA 5 (.t 1)),
     .c 42 (.f 10) [.t 41],
     .r 40 (.mv (.t 42)),
     .r 43 (.ext (.t 40) 0),
     .r 44 (.ext (.t 40) 1),
     .r 8 (.mv (.t 43)),
     .r 6 (.mv (.t 44))])
  (.seq (.reg [.r 45 (.mv (.t 4)),
     .r 46 (.mv (.t 6)),
     .r 47 (.bin .eql (.t 45) (.t 46)),
     .r 48 (.mv (.t 47)),
     .g 48 true (some 49) (.r 49 (.mv (.t 7))),
     .g 48 true (some 50) (.r 50 (.mv (.t 8))),
     .g 48 true (some 51) (.r 51 (.bin .eql (.t 49) (.t 50))),
     .r 52 (.pick (.t 48) (.t 51) (.c (.d (.bool false)))),
     .r 53 (.mv (.t 52)),
     .g 53 true (some 54) (.c 54 (.f 11) []),
     .r 55 (.pick (.t 53) (.t 54) (.c (.d (.bool false)))),
     .r 2 (.mv (.t 55))])
  .ret)))))))
theorem fit_interchangelaw12_DeskWaitsMatchSpec : fits Try.prog 3 Try.f3 sc_interchangelaw12_DeskWaitsMatchSpec [.t 2] 1 = true := by kernel_rfl

end Go.Proofs.Ytjdeikkojjdjdaa
