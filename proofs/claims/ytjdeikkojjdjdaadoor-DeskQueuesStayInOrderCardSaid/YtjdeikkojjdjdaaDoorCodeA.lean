/-
  The bodies of some functions in the engine's form, printed by a program of mine (wip/tool/sc.py) out of the translation; each is held against the translation by the kernel.
-/
import Derived.Test.YtjdeikkojjdjdaaDoorEngL
import Derived.Test.YtjdeikkojjdjdaaDoorProg
import Derived.KernelRfl
namespace Go.Proofs.YtjdeikkojjdjdaaDoor

/-- interchange/interchangelaw12.DeskOutboxMatchesSpec -/
def sc_interchangelaw12_DeskOutboxMatchesSpec : SC :=
  (.seq (.reg [.r 3 (.boxI (.t 0)),
     .r 6 (.mv (.c (.d (.bool false))))])
  (.seq (.reg [.r 12 (.ldA 5 (.t 3)),
     .r 13 (.mv (.t 1)),
     .r 14 (.mv (.t 2)),
     .c 15 (.f 7) [.t 12, .t 13, .t 14],
     .r 11 (.mv (.t 15)),
     .r 16 (.ext (.t 11) 0),
     .r 17 (.ext (.t 11) 1),
     .r 7 (.mv (.t 16)),
     .r 8 (.mv (.t 17))])
  (.seq (.reg [.r 19 (.ldA 5 (.t 3)),
     .r 20 (.mv (.t 1)),
     .r 21 (.mv (.t 2)),
     .c 22 (.f 8) [.t 19, .t 20, .t 21],
     .r 18 (.mv (.t 22)),
     .r 23 (.ext (.t 18) 0),
     .r 24 (.ext (.t 18) 1),
     .r 9 (.mv (.t 23)),
     .r 10 (.mv (.t 24))])
  (.seq (.reg [.r 25 (.mv (.t 1)),
     .c 26 (.f 9) [.t 25],
     .r 27 (.mv (.t 1)),
     .c 28 (.f 10) [.t 27],
     .r 29 (.bin .eql (.t 26) (.t 28)),
     .r 30 (.mv (.t 29)),
     .g 30 true (some 31) (.r 31 (.mv (.t 2))),
     .g 30 true (some 32) (.c 32 (.f 11) [.t 31]),
     .g 30 true (some 33) (.r 33 (.mv (.t 2))),
     .g 30 true (some 34) (.c 34 (.f 12) [.t 33]),
     .g 30 true (some 35) (.r 35 (.bin .eql (.t 32) (.t 34))),
     .r 36 (.pick (.t 30) (.t 35) (.c (.d (.bool false)))),
     .r 37 (.mv (.t 36)),
     .g 37 true (some 38) (.r 38 (.mv (.t 8))),
     .g 37 true (some 39) (.r 39 (.mv (.t 10))),
     .g 37 true (some 40) (.r 40 (.bin .eql (.t 38) (.t 39))),
     .r 41 (.pick (.t 37) (.t 40) (.c (.d (.bool false)))),
     .r 42 (.mv (.t 41)),
     .g 42 true (some 43) (.r 43 (.mv (.t 7))),
     .g 42 true (some 44) (.r 44 (.mv (.t 9))),
     .g 42 true (some 45) (.c 45 (.f 13) [.t 43, .t 44]),
     .r 46 (.pick (.t 42) (.t 45) (.c (.d (.bool false)))),
     .r 47 (.mv (.t 46)),
     .g 47 true (some 48) (.c 48 (.f 14) []),
     .r 49 (.pick (.t 47) (.t 48) (.c (.d (.bool false)))),
     .r 6 (.mv (.t 49))])
  .ret))))
theorem fit_interchangelaw12_DeskOutboxMatchesSpec : fits Tryd.prog 3 Tryd.f3 sc_interchangelaw12_DeskOutboxMatchesSpec [.t 6] 3 = true := by kernel_rfl

/-- interchange/interchangelaw12.DeskGivesUpLast -/
def sc_interchangelaw12_DeskGivesUpLast : SC :=
  (.seq (.reg [.r 3 (.boxI (.t 0)),
     .r 6 (.mv (.c (.d (.bool false))))])
  (.seq (.reg [.r 14 (.ldA 5 (.t 3)),
     .r 15 (.mv (.t 1)),
     .r 16 (.mv (.t 2)),
     .c 17 (.f 7) [.t 14, .t 15, .t 16],
     .r 13 (.mv (.t 17)),
     .r 18 (.ext (.t 13) 0),
     .r 19 (.ext (.t 13) 1),
     .r 7 (.mv (.t 18)),
     .r 8 (.mv (.t 19))])
  (.seq (.seq (.reg [.r 20 (.mv (.t 8)),
     .r 21 (.bin .neq (.t 20) (.c (.d (.int .i64 0))))])
  (.cond (.t 21)
    (.seq (.reg [.r 22 (.mv (.t 7)),
       .r 23 (.len (.t 22)),
       .r 24 (.bin .eql (.t 23) (.c (.d (.int .i64 0)))),
       .r 25 (.mv (.t 24)),
       .g 25 true (some 26) (.c 26 (.f 14) []),
       .r 27 (.pick (.t 25) (.t 26) (.c (.d (.bool false)))),
       .r 6 (.mv (.t 27))])
    .ret)
    .skip))
  (.seq (.reg [.r 29 (.ldA 5 (.t 3)),
     .c 30 (.f 15) [.t 29],
     .r 28 (.mv (.t 30)),
     .r 31 (.ext (.t 28) 0),
     .r 32 (.ext (.t 28) 1),
     .r 9 (.mv (.t 31)),
     .r 8 (.mv (.t 32))])
  (.seq (.seq (.reg [.r 33 (.mv (.t 8)),
     .r 34 (.bin .neq (.t 33) (.c (.d (.int .i64 0)))),
     .r 35 (.mv (.t 34)),
     .g 35 false (some 36) (.r 36 (.mv (.t 7))),
     .g 35 false (some 37) (.r 37 (.len (.t 36))),
     .g 35 false (some 38) (.r 38 (.mv (.t 1))),
     .g 35 false (some 39) (.r 39 (.len (.t 38))),
     .g 35 false (some 40) (.r 40 (.bin .neq (.t 37) (.t 39))),
     .r 41 (.pick (.t 35) (.c (.d (.bool true))) (.t 40)),
     .r 42 (.mv (.t 41)),
     .g 42 false (some 43) (.c 43 (.f 14) []),
     .g 42 false (some 44) (.r 44 (.not (.t 43))),
     .r 45 (.pick (.t 42) (.c (.d (.bool true))) (.t 44))])
  (.cond (.t 45)
    (.seq (.reg [.r 6 (.mv (.c (.d (.bool false))))])
    .ret)
    .skip))
  (.seq (.seq (.reg [.r 46 (.mv (.t 7)),
     .r 47 (.len (.t 46)),
     .r 48 (.mv (.c (.d (.int .i64 0))))])
  (.block 0 (.loop (.seq (.reg [.r 49 (.bin .lss (.t 48) (.t 47))])
      (.seq (.cond (.t 49)
        .skip
        (.exit 0))
      (.seq (.block 1 (.seq (.reg [.r 50 (.mv (.t 48)),
           .r 51 (.idx 3 (.t 46) (.t 48)),
           .r 52 (.ldA 3 (.t 51)),
           .w 11 (.boxM (.c (.agg [.d (.int .i64 0), .d (.int .i64 0), .d (.int .i64 0)]))),
           .r 10 (.mv (.t 50)),
           .w 0 (.st 3 (.t 11) (.t 52))])
        (.seq (.seq (.reg [.r 53 (.fld 1 (.t 11)),
           .r 54 (.ld1 (.t 53)),
           .r 55 (.bin .lss (.t 54) (.c (.d (.int .i64 0)))),
           .r 56 (.fld 2 (.t 11)),
           .r 57 (.ld1 (.t 56)),
           .r 58 (.bin .lss (.t 57) (.c (.d (.int .i64 0)))),
           .r 59 (.binB .eql (.t 55) (.t 58)),
           .r 60 (.mv (.t 59)),
           .g 60 false (some 61) (.r 61 (.fld 0 (.t 11))),
           .g 60 false (some 62) (.r 62 (.ld1 (.t 61))),
           .g 60 false (some 63) (.r 63 (.bin .lss (.t 62) (.c (.d (.int .i64 1))))),
           .r 64 (.pick (.t 60) (.c (.d (.bool true))) (.t 63)),
           .r 65 (.mv (.t 64)),
           .g 65 false (some 66) (.r 66 (.fld 0 (.t 11))),
           .g 65 false (some 67) (.r 67 (.ld1 (.t 66))),
           .g 65 false (some 68) (.r 68 (.fld 3 (.t 3))),
           .g 65 false (some 69) (.r 69 (.ld1 (.t 68))),
           .g 65 false (some 70) (.r 70 (.bin .gtr (.t 67) (.t 69))),
           .r 71 (.pick (.t 65) (.c (.d (.bool true))) (.t 70))])
        (.cond (.t 71)
          (.seq (.reg [.r 6 (.mv (.c (.d (.bool false))))])
          .ret)
          .skip))
        (.seq (.reg [.r 72 (.ldA 5 (.t 3)),
           .r 73 (.mv (.t 1)),
           .r 74 (.mv (.t 7)),
           .r 75 (.mv (.t 10)),
           .c 76 (.f 16) [.t 72, .t 73, .t 74, .t 75],
           .r 12 (.mv (.t 76))])
        (.seq (.seq (.reg [.r 77 (.mv (.t 2)),
           .r 78 (.mv (.t 1)),
           .r 79 (.mv (.t 10)),
           .r 80 (.idx 2 (.t 78) (.t 79)),
           .r 81 (.fld 0 (.t 80)),
           .r 82 (.ld1 (.t 81)),
           .r 83 (.mv (.t 12)),
           .c 84 (.f 17) [.t 77, .t 82, .t 83],
           .r 85 (.not (.t 84)),
           .r 86 (.mv (.t 85)),
           .g 86 true (some 87) (.r 87 (.fld 0 (.t 11))),
           .g 86 true (some 88) (.r 88 (.ld1 (.t 87))),
           .g 86 true (some 89) (.r 89 (.bin .eql (.t 88) (.c (.d (.int .i64 1))))),
           .r 90 (.pick (.t 86) (.t 89) (.c (.d (.bool false)))),
           .r 91 (.mv (.t 90)),
           .g 91 true (some 92) (.r 92 (.fld 3 (.t 3))),
           .g 91 true (some 93) (.r 93 (.ld1 (.t 92))),
           .g 91 true (some 94) (.r 94 (.bin .gtr (.t 93) (.c (.d (.int .i64 1))))),
           .r 95 (.pick (.t 91) (.t 94) (.c (.d (.bool false))))])
        (.cond (.t 95)
          (.seq (.reg [.r 6 (.mv (.c (.d (.bool false))))])
          .ret)
          .skip))
        (.seq (.seq (.regD [.r 96 (.fld 1 (.t 11)),
           .r 97 (.ld1 (.t 96)),
           .r 98 (.bin .geq (.t 97) (.c (.d (.int .i64 0)))),
           .r 99 (.mv (.t 98)),
           .g 99 true (some 100) (.r 100 (.mv (.t 2))),
           .g 99 true (some 101) (.r 101 (.mv (.t 1))),
           .g 99 true (some 102) (.r 102 (.mv (.t 10))),
           .g 99 true (some 103) (.r 103 (.idx 2 (.t 101) (.t 102))),
           .g 99 true (some 104) (.r 104 (.fld 0 (.t 103))),
           .g 99 true (some 105) (.r 105 (.ld1 (.t 104))),
           .g 99 true (some 106) (.r 106 (.fld 1 (.t 11))),
           .g 99 true (some 107) (.r 107 (.ld1 (.t 106))),
           .g 99 true (some 108) (.c 108 (.f 17) [.t 100, .t 105, .t 107]),
           .g 99 true (some 109) (.r 109 (.not (.t 108))),
           .g 99 true (some 110) (.r 110 (.mv (.t 109))),
           .g 110 false (some 111) (.r 111 (.fld 1 (.t 11))),
           .g 110 false (some 112) (.r 112 (.ld1 (.t 111))),
           .g 110 false (some 113) (.r 113 (.mv (.t 12))),
           .g 110 false (some 114) (.r 114 (.bin .lss (.t 112) (.t 113))),
           .g 99 true (some 115) (.r 115 (.pick (.t 110) (.c (.d (.bool true))) (.t 114))),
           .g 99 true (some 116) (.r 116 (.mv (.t 115))),
           .g 116 false (some 117) (.r 117 (.fld 1 (.t 11))),
           .g 116 false (some 118) (.r 118 (.ld1 (.t 117))),
           .g 116 false (some 119) (.r 119 (.mv (.t 12))),
           .g 116 false (some 120) (.r 120 (.mv (.t 9))),
           .g 116 false (some 121) (.r 121 (.bin .add (.t 119) (.t 120))),
           .g 116 false (some 122) (.r 122 (.bin .gtr (.t 118) (.t 121))),
           .g 99 true (some 123) (.r 123 (.pick (.t 116) (.c (.d (.bool true))) (.t 122))),
           .r 124 (.pick (.t 99) (.t 123) (.c (.d (.bool false))))])
        (.cond (.t 124)
          (.seq (.reg [.r 6 (.mv (.c (.d (.bool false))))])
          .ret)
          .skip))
        (.seq (.seq (.regD [.r 125 (.fld 2 (.t 11)),
           .r 126 (.ld1 (.t 125)),
           .r 127 (.bin .geq (.t 126) (.c (.d (.int .i64 0)))),
           .r 128 (.mv (.t 127)),
           .g 128 true (some 129) (.r 129 (.mv (.t 2))),
           .g 128 true (some 130) (.r 130 (.mv (.t 1))),
           .g 128 true (some 131) (.r 131 (.mv (.t 10))),
           .g 128 true (some 132) (.r 132 (.idx 2 (.t 130) (.t 131))),
           .g 128 true (some 133) (.r 133 (.fld 0 (.t 132))),
           .g 128 true (some 134) (.r 134 (.ld1 (.t 133))),
           .g 128 true (some 135) (.r 135 (.fld 2 (.t 11))),
           .g 128 true (some 136) (.r 136 (.ld1 (.t 135))),
           .g 128 true (some 137) (.c 137 (.f 17) [.t 129, .t 134, .t 136]),
           .g 128 true (some 138) (.r 138 (.mv (.t 137))),
           .g 138 false (some 139) (.r 139 (.fld 0 (.t 11))),
           .g 138 false (some 140) (.r 140 (.ld1 (.t 139))),
           .g 138 false (some 141) (.r 141 (.fld 3 (.t 3))),
           .g 138 false (some 142) (.r 142 (.ld1 (.t 141))),
           .g 138 false (some 143) (.r 143 (.bin .neq (.t 140) (.t 142))),
           .g 128 true (some 144) (.r 144 (.pick (.t 138) (.c (.d (.bool true))) (.t 143))),
           .g 128 true (some 145) (.r 145 (.mv (.t 144))),
           .g 145 false (some 146) (.r 146 (.fld 2 (.t 11))),
           .g 145 false (some 147) (.r 147 (.ld1 (.t 146))),
           .g 145 false (some 148) (.r 148 (.mv (.t 12))),
           .g 145 false (some 149) (.r 149 (.mv (.t 9))),
           .g 145 false (some 150) (.r 150 (.bin .add (.t 148) (.t 149))),
           .g 145 false (some 151) (.r 151 (.bin .neq (.t 147) (.t 150))),
           .g 128 true (some 152) (.r 152 (.pick (.t 145) (.c (.d (.bool true))) (.t 151))),
           .r 153 (.pick (.t 128) (.t 152) (.c (.d (.bool false))))])
        (.cond (.t 153)
          (.seq (.reg [.r 6 (.mv (.c (.d (.bool false))))])
          .ret)
          .skip))
        (.seq (.regD [.r 154 (.mv (.t 2)),
           .r 155 (.len (.t 154)),
           .r 156 (.bin .eql (.t 155) (.c (.d (.int .i64 1)))),
           .r 157 (.mv (.t 156)),
           .g 157 true (some 158) (.r 158 (.mv (.t 2))),
           .g 157 true (some 159) (.r 159 (.idx 3 (.t 158) (.c (.d (.int .i64 0))))),
           .g 157 true (some 160) (.r 160 (.fld 2 (.t 159))),
           .g 157 true (some 161) (.r 161 (.ld1 (.t 160))),
           .g 157 true (some 162) (.r 162 (.mv (.t 2))),
           .g 157 true (some 163) (.r 163 (.idx 3 (.t 162) (.c (.d (.int .i64 0))))),
           .g 157 true (some 164) (.r 164 (.fld 1 (.t 163))),
           .g 157 true (some 165) (.r 165 (.ld1 (.t 164))),
           .g 157 true (some 166) (.r 166 (.bin .sub (.t 161) (.t 165))),
           .g 157 true (some 167) (.r 167 (.mv (.t 9))),
           .g 157 true (some 168) (.r 168 (.bin .leq (.t 166) (.t 167))),
           .r 169 (.pick (.t 157) (.t 168) (.c (.d (.bool false)))),
           .r 170 (.mv (.t 169)),
           .g 170 true (some 171) (.r 171 (.fld 2 (.t 11))),
           .g 170 true (some 172) (.r 172 (.ld1 (.t 171))),
           .g 170 true (some 173) (.r 173 (.bin .geq (.t 172) (.c (.d (.int .i64 0))))),
           .r 174 (.pick (.t 170) (.t 173) (.c (.d (.bool false))))])
        (.cond (.t 174)
          (.seq (.reg [.r 6 (.mv (.c (.d (.bool false))))])
          .ret)
          .skip)))))))))
      (.reg [.r 175 (.bin .add (.t 48) (.c (.d (.int .i64 1)))),
         .r 48 (.mv (.t 175))])))))))
  (.seq (.reg [.r 6 (.mv (.c (.d (.bool true))))])
  .ret)))))))
theorem fit_interchangelaw12_DeskGivesUpLast : fits Tryd.prog 4 Tryd.f4 sc_interchangelaw12_DeskGivesUpLast [.t 6] 3 = true := by kernel_rfl

/-- interchange/interchangelaw12.DeskPendingMatchesSpec -/
def sc_interchangelaw12_DeskPendingMatchesSpec : SC :=
  (.seq (.reg [.r 4 (.boxI (.t 0)),
     .r 8 (.mv (.c (.d (.bool false))))])
  (.seq (.reg [.r 14 (.ldA 5 (.t 4)),
     .r 15 (.mv (.t 1)),
     .r 16 (.mv (.t 2)),
     .r 17 (.mv (.t 3)),
     .c 18 (.f 18) [.t 14, .t 15, .t 16, .t 17],
     .r 13 (.mv (.t 18)),
     .r 19 (.ext (.t 13) 0),
     .r 20 (.ext (.t 13) 1),
     .r 9 (.mv (.t 19)),
     .r 10 (.mv (.t 20))])
  (.seq (.reg [.r 22 (.ldA 5 (.t 4)),
     .r 23 (.mv (.t 1)),
     .r 24 (.mv (.t 2)),
     .r 25 (.mv (.t 3)),
     .c 26 (.f 19) [.t 22, .t 23, .t 24, .t 25],
     .r 21 (.mv (.t 26)),
     .r 27 (.ext (.t 21) 0),
     .r 28 (.ext (.t 21) 1),
     .r 11 (.mv (.t 27)),
     .r 12 (.mv (.t 28))])
  (.seq (.reg [.r 29 (.mv (.t 10)),
     .r 30 (.mv (.t 12)),
     .r 31 (.bin .eql (.t 29) (.t 30)),
     .r 32 (.mv (.t 31)),
     .g 32 true (some 33) (.r 33 (.mv (.t 9))),
     .g 32 true (some 34) (.r 34 (.mv (.t 11))),
     .g 32 true (some 35) (.c 35 (.f 20) [.t 33, .t 34]),
     .r 36 (.pick (.t 32) (.t 35) (.c (.d (.bool false)))),
     .r 37 (.mv (.t 36)),
     .g 37 true (some 38) (.c 38 (.f 14) []),
     .r 39 (.pick (.t 37) (.t 38) (.c (.d (.bool false)))),
     .r 8 (.mv (.t 39))])
  .ret))))
theorem fit_interchangelaw12_DeskPendingMatchesSpec : fits Tryd.prog 5 Tryd.f5 sc_interchangelaw12_DeskPendingMatchesSpec [.t 8] 4 = true := by kernel_rfl

/-- interchange/interchangelaw12.DeskQueuesStayInOrder -/
def sc_interchangelaw12_DeskQueuesStayInOrder : SC :=
  (.seq (.reg [.r 5 (.boxI (.t 0)),
     .r 10 (.mv (.c (.d (.bool false))))])
  (.seq (.reg [.r 23 (.ldA 5 (.t 5)),
     .r 24 (.mv (.t 1)),
     .r 25 (.mv (.t 2)),
     .c 26 (.f 7) [.t 23, .t 24, .t 25],
     .r 22 (.mv (.t 26)),
     .r 27 (.ext (.t 22) 0),
     .r 28 (.ext (.t 22) 1),
     .r 11 (.mv (.t 27)),
     .r 12 (.mv (.t 28))])
  (.seq (.seq (.reg [.r 29 (.mv (.t 12)),
     .r 30 (.bin .neq (.t 29) (.c (.d (.int .i64 0))))])
  (.cond (.t 30)
    (.seq (.reg [.r 31 (.mv (.t 11)),
       .r 32 (.len (.t 31)),
       .r 33 (.bin .eql (.t 32) (.c (.d (.int .i64 0)))),
       .r 34 (.mv (.t 33)),
       .g 34 true (some 35) (.c 35 (.f 14) []),
       .r 36 (.pick (.t 34) (.t 35) (.c (.d (.bool false)))),
       .r 10 (.mv (.t 36))])
    .ret)
    .skip))
  (.seq (.seq (.reg [.r 37 (.mv (.t 11)),
     .r 38 (.len (.t 37)),
     .r 39 (.mv (.c (.d (.int .i64 0))))])
  (.block 0 (.loop (.seq (.reg [.r 40 (.bin .lss (.t 39) (.t 38))])
      (.seq (.cond (.t 40)
        .skip
        (.exit 0))
      (.seq (.block 1 (.seq (.reg [.r 41 (.mv (.t 39)),
           .r 42 (.idx 3 (.t 37) (.t 39)),
           .r 43 (.ldA 3 (.t 42)),
           .w 14 (.boxM (.c (.agg [.d (.int .i64 0), .d (.int .i64 0), .d (.int .i64 0)]))),
           .r 13 (.mv (.t 41)),
           .w 0 (.st 3 (.t 14) (.t 43))])
        (.seq (.reg [.r 44 (.mv (.t 13)),
           .r 45 (.mv (.c (.d (.int .i64 0))))])
        (.block 2 (.loop (.seq (.reg [.r 46 (.bin .lss (.t 45) (.t 44))])
            (.seq (.cond (.t 46)
              .skip
              (.exit 2))
            (.seq (.block 3 (.seq (.reg [.r 47 (.mv (.t 45)),
                 .r 15 (.mv (.t 47))])
              (.seq (.regD [.r 48 (.fld 4 (.t 5)),
                 .r 49 (.ld1 (.t 48)),
                 .r 50 (.mv (.t 49)),
                 .g 50 true (some 51) (.r 51 (.mv (.t 1))),
                 .g 50 true (some 52) (.r 52 (.mv (.t 15))),
                 .g 50 true (some 53) (.r 53 (.idx 2 (.t 51) (.t 52))),
                 .g 50 true (some 54) (.r 54 (.fld 0 (.t 53))),
                 .g 50 true (some 55) (.r 55 (.ld1 (.t 54))),
                 .g 50 true (some 56) (.r 56 (.mv (.t 1))),
                 .g 50 true (some 57) (.r 57 (.mv (.t 13))),
                 .g 50 true (some 58) (.r 58 (.idx 2 (.t 56) (.t 57))),
                 .g 50 true (some 59) (.r 59 (.fld 0 (.t 58))),
                 .g 50 true (some 60) (.r 60 (.ld1 (.t 59))),
                 .g 50 true (some 61) (.r 61 (.bin .eql (.t 55) (.t 60))),
                 .r 62 (.pick (.t 50) (.t 61) (.c (.d (.bool false)))),
                 .r 63 (.mv (.t 62)),
                 .g 63 true (some 64) (.r 64 (.mv (.t 11))),
                 .g 63 true (some 65) (.r 65 (.mv (.t 15))),
                 .g 63 true (some 66) (.r 66 (.idx 3 (.t 64) (.t 65))),
                 .g 63 true (some 67) (.r 67 (.fld 1 (.t 66))),
                 .g 63 true (some 68) (.r 68 (.ld1 (.t 67))),
                 .g 63 true (some 69) (.r 69 (.mv (.t 11))),
                 .g 63 true (some 70) (.r 70 (.mv (.t 15))),
                 .g 63 true (some 71) (.r 71 (.idx 3 (.t 69) (.t 70))),
                 .g 63 true (some 72) (.r 72 (.fld 2 (.t 71))),
                 .g 63 true (some 73) (.r 73 (.ld1 (.t 72))),
                 .g 63 true (some 74) (.r 74 (.maxs (.t 68) [.t 73])),
                 .g 63 true (some 75) (.r 75 (.fld 1 (.t 14))),
                 .g 63 true (some 76) (.r 76 (.ld1 (.t 75))),
                 .g 63 true (some 77) (.r 77 (.fld 2 (.t 14))),
                 .g 63 true (some 78) (.r 78 (.ld1 (.t 77))),
                 .g 63 true (some 79) (.r 79 (.maxs (.t 76) [.t 78])),
                 .g 63 true (some 80) (.r 80 (.bin .gtr (.t 74) (.t 79))),
                 .r 81 (.pick (.t 63) (.t 80) (.c (.d (.bool false))))])
              (.cond (.t 81)
                (.seq (.reg [.r 10 (.mv (.c (.d (.bool false))))])
                .ret)
                .skip))))
            (.reg [.r 82 (.bin .add (.t 45) (.c (.d (.int .i64 1)))),
               .r 45 (.mv (.t 82))])))))))))
      (.reg [.r 83 (.bin .add (.t 39) (.c (.d (.int .i64 1)))),
         .r 39 (.mv (.t 83))])))))))
  (.seq (.reg [.r 85 (.ldA 5 (.t 5)),
     .r 86 (.mv (.t 1)),
     .r 87 (.mv (.t 2)),
     .r 88 (.mv (.t 3)),
     .c 89 (.f 18) [.t 85, .t 86, .t 87, .t 88],
     .r 84 (.mv (.t 89)),
     .r 90 (.ext (.t 84) 0),
     .r 91 (.ext (.t 84) 1),
     .r 16 (.mv (.t 90)),
     .r 12 (.mv (.t 91))])
  (.seq (.reg [.r 93 (.ldA 5 (.t 5)),
     .r 94 (.mv (.t 1)),
     .r 95 (.mv (.t 2)),
     .r 96 (.mv (.t 4)),
     .c 97 (.f 18) [.t 93, .t 94, .t 95, .t 96],
     .r 92 (.mv (.t 97)),
     .r 98 (.ext (.t 92) 0),
     .r 99 (.ext (.t 92) 1),
     .r 17 (.mv (.t 98)),
     .r 18 (.mv (.t 99))])
  (.seq (.seq (.reg [.r 100 (.mv (.t 12)),
     .r 101 (.bin .neq (.t 100) (.c (.d (.int .i64 0)))),
     .r 102 (.mv (.t 101)),
     .g 102 false (some 103) (.r 103 (.mv (.t 18))),
     .g 102 false (some 104) (.r 104 (.bin .neq (.t 103) (.c (.d (.int .i64 0))))),
     .r 105 (.pick (.t 102) (.c (.d (.bool true))) (.t 104)),
     .r 106 (.mv (.t 105)),
     .g 106 false (some 107) (.r 107 (.mv (.t 4))),
     .g 106 false (some 108) (.r 108 (.mv (.t 3))),
     .g 106 false (some 109) (.r 109 (.bin .lss (.t 107) (.t 108))),
     .r 110 (.pick (.t 106) (.c (.d (.bool true))) (.t 109))])
  (.cond (.t 110)
    (.seq (.reg [.c 111 (.f 14) [],
       .r 10 (.mv (.t 111))])
    .ret)
    .skip))
  (.seq (.seq (.reg [.r 112 (.mv (.t 16)),
     .r 113 (.len (.t 112)),
     .r 114 (.mv (.c (.d (.int .i64 0))))])
  (.block 4 (.loop (.seq (.reg [.r 115 (.bin .lss (.t 114) (.t 113))])
      (.seq (.cond (.t 115)
        .skip
        (.exit 4))
      (.seq (.block 5 (.seq (.reg [.r 116 (.idx 1 (.t 112) (.t 114)),
           .r 117 (.ld1 (.t 116)),
           .r 20 (.mv (.t 117))])
        (.seq (.seq (.reg [.r 118 (.mv (.t 20)),
           .r 119 (.bin .lss (.t 118) (.c (.d (.int .i64 0)))),
           .r 120 (.mv (.t 119)),
           .g 120 false (some 121) (.r 121 (.mv (.t 20))),
           .g 120 false (some 122) (.r 122 (.mv (.t 11))),
           .g 120 false (some 123) (.r 123 (.len (.t 122))),
           .g 120 false (some 124) (.r 124 (.bin .geq (.t 121) (.t 123))),
           .r 125 (.pick (.t 120) (.c (.d (.bool true))) (.t 124))])
        (.cond (.t 125)
          (.seq (.reg [.r 10 (.mv (.c (.d (.bool false))))])
          .ret)
          .skip))
        (.seq (.regD [.r 126 (.mv (.t 11)),
           .r 127 (.mv (.t 20)),
           .r 128 (.idx 3 (.t 126) (.t 127)),
           .r 129 (.fld 1 (.t 128)),
           .r 130 (.ld1 (.t 129)),
           .r 131 (.mv (.t 11)),
           .r 132 (.mv (.t 20)),
           .r 133 (.idx 3 (.t 131) (.t 132)),
           .r 134 (.fld 2 (.t 133)),
           .r 135 (.ld1 (.t 134)),
           .r 136 (.maxs (.t 130) [.t 135]),
           .r 21 (.mv (.t 136))])
        (.seq (.reg [.r 137 (.mv (.t 17)),
           .r 138 (.mv (.t 20)),
           .c 139 (.f 21) [.t 137, .t 138],
           .r 140 (.mv (.t 21)),
           .r 141 (.mv (.t 4)),
           .r 142 (.bin .gtr (.t 140) (.t 141)),
           .r 143 (.binB .neq (.t 139) (.t 142)),
           .r 144 (.mv (.t 143)),
           .g 144 false (some 145) (.r 145 (.mv (.t 21))),
           .g 144 false (some 146) (.r 146 (.mv (.t 3))),
           .g 144 false (some 147) (.r 147 (.bin .leq (.t 145) (.t 146))),
           .r 148 (.pick (.t 144) (.c (.d (.bool true))) (.t 147))])
        (.cond (.t 148)
          (.seq (.reg [.r 10 (.mv (.c (.d (.bool false))))])
          .ret)
          .skip))))))
      (.reg [.r 149 (.bin .add (.t 114) (.c (.d (.int .i64 1)))),
         .r 114 (.mv (.t 149))])))))))
  (.seq (.reg [.c 150 (.f 14) [],
     .r 10 (.mv (.t 150))])
  .ret)))))))))
theorem fit_interchangelaw12_DeskQueuesStayInOrder : fits Tryd.prog 6 Tryd.f6 sc_interchangelaw12_DeskQueuesStayInOrder [.t 10] 5 = true := by kernel_rfl

/-- interchange/desk.Outbox -/
def sc_desk_Outbox : SC :=
  (.seq (.reg [.r 3 (.boxI (.t 0)),
     .r 6 (.mv (.c (.nils))),
     .r 7 (.mv (.c (.d (.int .i64 0))))])
  (.seq (.seq (.reg [.r 9 (.ldA 5 (.t 3)),
     .r 10 (.mv (.t 1)),
     .r 11 (.mv (.t 2)),
     .c 12 (.f 22) [.t 9, .t 10, .t 11],
     .r 8 (.mv (.t 12))])
  (.seq (.reg [.r 13 (.mv (.t 8)),
     .r 14 (.bin .neq (.t 13) (.c (.d (.int .i64 0))))])
  (.cond (.t 14)
    (.seq (.reg [.r 15 (.mv (.t 8)),
       .r 6 (.mv (.c (.nils))),
       .r 7 (.mv (.t 15))])
    .ret)
    .skip)))
  (.seq (.reg [.r 16 (.ldA 5 (.t 3)),
     .r 17 (.mv (.t 1)),
     .r 18 (.mv (.t 2)),
     .c 19 (.f 23) [.t 16, .t 17, .t 18],
     .r 20 (.ext (.t 19) 0),
     .r 21 (.ext (.t 19) 1),
     .r 6 (.mv (.t 20)),
     .r 7 (.mv (.t 21))])
  .ret)))
theorem fit_desk_Outbox : fits Tryd.prog 7 Tryd.f7 sc_desk_Outbox [.t 6, .t 7] 3 = true := by kernel_rfl

/-- interchange/interchangeref12.Outbox -/
def sc_interchangeref12_Outbox : SC :=
  (.seq (.reg [.r 3 (.boxI (.t 0)),
     .r 6 (.mv (.c (.nils))),
     .r 7 (.mv (.c (.d (.int .i64 0))))])
  (.seq (.seq (.reg [.r 11 (.ldA 5 (.t 3)),
     .r 12 (.mv (.t 1)),
     .r 13 (.mv (.t 2)),
     .c 14 (.f 24) [.t 11, .t 12, .t 13],
     .r 8 (.mv (.t 14))])
  (.seq (.reg [.r 15 (.mv (.t 8)),
     .r 16 (.bin .neq (.t 15) (.c (.d (.int .i64 0))))])
  (.cond (.t 16)
    (.seq (.reg [.r 17 (.mv (.t 8)),
       .r 6 (.mv (.c (.nils))),
       .r 7 (.mv (.t 17))])
    .ret)
    .skip)))
  (.seq (.reg [.r 19 (.ldA 5 (.t 3)),
     .r 20 (.mv (.t 1)),
     .r 21 (.mv (.t 2)),
     .c 22 (.f 25) [.t 19, .t 20, .t 21],
     .r 18 (.mv (.t 22)),
     .r 23 (.ext (.t 18) 0),
     .r 24 (.ext (.t 18) 1),
     .r 9 (.mv (.t 23)),
     .r 10 (.mv (.t 24))])
  (.seq (.seq (.reg [.r 25 (.mv (.t 10)),
     .r 26 (.not (.t 25))])
  (.cond (.t 26)
    (.seq (.reg [.r 6 (.mv (.c (.nils))),
       .r 7 (.mv (.c (.d (.int .i64 1))))])
    .ret)
    .skip))
  (.seq (.reg [.r 27 (.mv (.t 9)),
     .r 6 (.mv (.t 27)),
     .r 7 (.mv (.c (.d (.int .i64 0))))])
  .ret)))))
theorem fit_interchangeref12_Outbox : fits Tryd.prog 8 Tryd.f8 sc_interchangeref12_Outbox [.t 6, .t 7] 3 = true := by kernel_rfl

/-- interchange/desk.CheckJobs -/
def sc_desk_CheckJobs : SC :=
  (.seq (.reg [.r 2 (.mv (.c (.d (.int .i64 0))))])
  (.seq (.seq (.reg [.r 5 (.mv (.t 0)),
     .r 6 (.len (.t 5)),
     .r 7 (.bin .gtr (.t 6) (.c (.d (.int .i64 1000))))])
  (.cond (.t 7)
    (.seq (.reg [.r 2 (.mv (.c (.d (.int .i64 2))))])
    .ret)
    .skip))
  (.seq (.seq (.reg [.r 8 (.mv (.t 0)),
     .r 9 (.len (.t 8)),
     .r 10 (.mv (.c (.d (.int .i64 0))))])
  (.block 0 (.loop (.seq (.reg [.r 11 (.bin .lss (.t 10) (.t 9))])
      (.seq (.cond (.t 11)
        .skip
        (.exit 0))
      (.seq (.block 1 (.seq (.reg [.r 12 (.mv (.t 10)),
           .r 13 (.idx 2 (.t 8) (.t 10)),
           .r 14 (.ldA 2 (.t 13)),
           .w 4 (.boxM (.c (.agg [.d (.str []), .d (.int .i64 0)]))),
           .r 3 (.mv (.t 12)),
           .w 0 (.st 2 (.t 4) (.t 14))])
        (.block 2 (.seq (.reg [.r 16 (.fld 0 (.t 4)),
             .r 17 (.ld1 (.t 16)),
             .c 18 (.f 26) [.t 17],
             .r 19 (.not (.t 18)),
             .r 15 (.mv (.t 19))])
          (.cond (.t 15)
            (.seq (.reg [.r 2 (.mv (.c (.d (.int .i64 5))))])
            .ret)
            (.seq (.reg [.r 21 (.fld 1 (.t 4)),
               .r 22 (.ld1 (.t 21)),
               .c 23 (.f 27) [.t 22],
               .r 24 (.not (.t 23)),
               .r 20 (.mv (.t 24))])
            (.cond (.t 20)
              (.seq (.reg [.r 2 (.mv (.c (.d (.int .i64 1))))])
              .ret)
              (.seq (.regD [.r 26 (.mv (.t 3)),
                 .r 27 (.bin .gtr (.t 26) (.c (.d (.int .i64 0)))),
                 .r 28 (.mv (.t 27)),
                 .g 28 true (some 29) (.r 29 (.fld 1 (.t 4))),
                 .g 28 true (some 30) (.r 30 (.ld1 (.t 29))),
                 .g 28 true (some 31) (.r 31 (.mv (.t 0))),
                 .g 28 true (some 32) (.r 32 (.mv (.t 3))),
                 .g 28 true (some 33) (.r 33 (.bin .sub (.t 32) (.c (.d (.int .i64 1))))),
                 .g 28 true (some 34) (.r 34 (.idx 2 (.t 31) (.t 33))),
                 .g 28 true (some 35) (.r 35 (.fld 1 (.t 34))),
                 .g 28 true (some 36) (.r 36 (.ld1 (.t 35))),
                 .g 28 true (some 37) (.r 37 (.bin .lss (.t 30) (.t 36))),
                 .r 38 (.pick (.t 28) (.t 37) (.c (.d (.bool false)))),
                 .r 25 (.mv (.t 38))])
              (.cond (.t 25)
                (.seq (.reg [.r 2 (.mv (.c (.d (.int .i64 8))))])
                .ret)
                .skip)))))))))
      (.reg [.r 39 (.bin .add (.t 10) (.c (.d (.int .i64 1)))),
         .r 10 (.mv (.t 39))])))))))
  (.seq (.reg [.r 2 (.mv (.c (.d (.int .i64 0))))])
  .ret))))
theorem fit_desk_CheckJobs : fits Tryd.prog 9 Tryd.f9 sc_desk_CheckJobs [.t 2] 1 = true := by kernel_rfl

/-- interchange/interchangeref12.CheckJobs -/
def sc_interchangeref12_CheckJobs : SC :=
  (.seq (.reg [.r 2 (.mv (.c (.d (.int .i64 0))))])
  (.seq (.seq (.reg [.r 5 (.mv (.t 0)),
     .r 6 (.len (.t 5)),
     .r 7 (.bin .gtr (.t 6) (.c (.d (.int .i64 1000))))])
  (.cond (.t 7)
    (.seq (.reg [.r 2 (.mv (.c (.d (.int .i64 2))))])
    .ret)
    .skip))
  (.seq (.seq (.reg [.r 8 (.mv (.t 0)),
     .r 9 (.len (.t 8)),
     .r 10 (.mv (.c (.d (.int .i64 0))))])
  (.block 0 (.loop (.seq (.reg [.r 11 (.bin .lss (.t 10) (.t 9))])
      (.seq (.cond (.t 11)
        .skip
        (.exit 0))
      (.seq (.block 1 (.seq (.reg [.r 12 (.mv (.t 10)),
           .r 13 (.idx 2 (.t 8) (.t 10)),
           .r 14 (.ldA 2 (.t 13)),
           .w 4 (.boxM (.c (.agg [.d (.str []), .d (.int .i64 0)]))),
           .r 3 (.mv (.t 12)),
           .w 0 (.st 2 (.t 4) (.t 14))])
        (.block 2 (.seq (.reg [.r 16 (.fld 0 (.t 4)),
             .r 17 (.ld1 (.t 16)),
             .c 18 (.f 28) [.t 17],
             .r 19 (.not (.t 18)),
             .r 15 (.mv (.t 19))])
          (.cond (.t 15)
            (.seq (.reg [.r 2 (.mv (.c (.d (.int .i64 5))))])
            .ret)
            (.seq (.reg [.r 21 (.fld 1 (.t 4)),
               .r 22 (.ld1 (.t 21)),
               .c 23 (.f 29) [.t 22, .c (.d (.int .i64 0)), .c (.d (.int .i64 1000000000000000))],
               .r 24 (.not (.t 23)),
               .r 20 (.mv (.t 24))])
            (.cond (.t 20)
              (.seq (.reg [.r 2 (.mv (.c (.d (.int .i64 1))))])
              .ret)
              (.seq (.regD [.r 26 (.mv (.t 3)),
                 .r 27 (.bin .gtr (.t 26) (.c (.d (.int .i64 0)))),
                 .r 28 (.mv (.t 27)),
                 .g 28 true (some 29) (.r 29 (.fld 1 (.t 4))),
                 .g 28 true (some 30) (.r 30 (.ld1 (.t 29))),
                 .g 28 true (some 31) (.r 31 (.mv (.t 0))),
                 .g 28 true (some 32) (.r 32 (.mv (.t 3))),
                 .g 28 true (some 33) (.r 33 (.bin .sub (.t 32) (.c (.d (.int .i64 1))))),
                 .g 28 true (some 34) (.r 34 (.idx 2 (.t 31) (.t 33))),
                 .g 28 true (some 35) (.r 35 (.fld 1 (.t 34))),
                 .g 28 true (some 36) (.r 36 (.ld1 (.t 35))),
                 .g 28 true (some 37) (.r 37 (.bin .lss (.t 30) (.t 36))),
                 .r 38 (.pick (.t 28) (.t 37) (.c (.d (.bool false)))),
                 .r 25 (.mv (.t 38))])
              (.cond (.t 25)
                (.seq (.reg [.r 2 (.mv (.c (.d (.int .i64 8))))])
                .ret)
                .skip)))))))))
      (.reg [.r 39 (.bin .add (.t 10) (.c (.d (.int .i64 1)))),
         .r 10 (.mv (.t 39))])))))))
  (.seq (.reg [.r 2 (.mv (.c (.d (.int .i64 0))))])
  .ret))))
theorem fit_interchangeref12_CheckJobs : fits Tryd.prog 10 Tryd.f10 sc_interchangeref12_CheckJobs [.t 2] 1 = true := by kernel_rfl

/-- interchange/desk.CheckOutages -/
def sc_desk_CheckOutages : SC :=
  (.seq (.reg [.r 2 (.mv (.c (.d (.int .i64 0))))])
  (.seq (.seq (.reg [.r 5 (.mv (.t 0)),
     .r 6 (.len (.t 5)),
     .r 7 (.bin .gtr (.t 6) (.c (.d (.int .i64 500))))])
  (.cond (.t 7)
    (.seq (.reg [.r 2 (.mv (.c (.d (.int .i64 2))))])
    .ret)
    .skip))
  (.seq (.seq (.reg [.r 8 (.mv (.t 0)),
     .r 9 (.len (.t 8)),
     .r 10 (.mv (.c (.d (.int .i64 0))))])
  (.block 0 (.loop (.seq (.reg [.r 11 (.bin .lss (.t 10) (.t 9))])
      (.seq (.cond (.t 11)
        .skip
        (.exit 0))
      (.seq (.block 1 (.seq (.reg [.r 12 (.idx 3 (.t 8) (.t 10)),
           .r 13 (.ldA 3 (.t 12)),
           .w 4 (.boxM (.c (.agg [.d (.str []), .d (.int .i64 0), .d (.int .i64 0)]))),
           .w 0 (.st 3 (.t 4) (.t 13))])
        (.block 2 (.seq (.reg [.r 15 (.fld 0 (.t 4)),
             .r 16 (.ld1 (.t 15)),
             .c 17 (.f 26) [.t 16],
             .r 18 (.not (.t 17)),
             .r 14 (.mv (.t 18))])
          (.cond (.t 14)
            (.seq (.reg [.r 2 (.mv (.c (.d (.int .i64 5))))])
            .ret)
            (.seq (.reg [.r 20 (.fld 1 (.t 4)),
               .r 21 (.ld1 (.t 20)),
               .c 22 (.f 27) [.t 21],
               .r 23 (.not (.t 22)),
               .r 24 (.mv (.t 23)),
               .g 24 false (some 25) (.r 25 (.fld 2 (.t 4))),
               .g 24 false (some 26) (.r 26 (.ld1 (.t 25))),
               .g 24 false (some 27) (.c 27 (.f 30) [.t 26, .c (.d (.int .i64 0)), .c (.d (.int .i64 2000000000000000))]),
               .r 28 (.pick (.t 24) (.c (.d (.bool true))) (.t 27)),
               .r 19 (.mv (.t 28))])
            (.cond (.t 19)
              (.seq (.reg [.r 2 (.mv (.c (.d (.int .i64 1))))])
              .ret)
              (.seq (.reg [.r 30 (.fld 2 (.t 4)),
                 .r 31 (.ld1 (.t 30)),
                 .r 32 (.fld 1 (.t 4)),
                 .r 33 (.ld1 (.t 32)),
                 .r 34 (.bin .leq (.t 31) (.t 33)),
                 .r 29 (.mv (.t 34))])
              (.cond (.t 29)
                (.seq (.reg [.r 2 (.mv (.c (.d (.int .i64 8))))])
                .ret)
                .skip)))))))))
      (.reg [.r 35 (.bin .add (.t 10) (.c (.d (.int .i64 1)))),
         .r 10 (.mv (.t 35))])))))))
  (.seq (.reg [.r 2 (.mv (.c (.d (.int .i64 0))))])
  .ret))))
theorem fit_desk_CheckOutages : fits Tryd.prog 11 Tryd.f11 sc_desk_CheckOutages [.t 2] 1 = true := by kernel_rfl

/-- interchange/interchangeref12.CheckOutages -/
def sc_interchangeref12_CheckOutages : SC :=
  (.seq (.reg [.r 2 (.mv (.c (.d (.int .i64 0))))])
  (.seq (.seq (.reg [.r 5 (.mv (.t 0)),
     .r 6 (.len (.t 5)),
     .r 7 (.bin .gtr (.t 6) (.c (.d (.int .i64 500))))])
  (.cond (.t 7)
    (.seq (.reg [.r 2 (.mv (.c (.d (.int .i64 2))))])
    .ret)
    .skip))
  (.seq (.seq (.reg [.r 8 (.mv (.t 0)),
     .r 9 (.len (.t 8)),
     .r 10 (.mv (.c (.d (.int .i64 0))))])
  (.block 0 (.loop (.seq (.reg [.r 11 (.bin .lss (.t 10) (.t 9))])
      (.seq (.cond (.t 11)
        .skip
        (.exit 0))
      (.seq (.block 1 (.seq (.reg [.r 12 (.idx 3 (.t 8) (.t 10)),
           .r 13 (.ldA 3 (.t 12)),
           .w 4 (.boxM (.c (.agg [.d (.str []), .d (.int .i64 0), .d (.int .i64 0)]))),
           .w 0 (.st 3 (.t 4) (.t 13))])
        (.block 2 (.seq (.reg [.r 15 (.fld 0 (.t 4)),
             .r 16 (.ld1 (.t 15)),
             .c 17 (.f 28) [.t 16],
             .r 18 (.not (.t 17)),
             .r 14 (.mv (.t 18))])
          (.cond (.t 14)
            (.seq (.reg [.r 2 (.mv (.c (.d (.int .i64 5))))])
            .ret)
            (.seq (.reg [.r 20 (.fld 1 (.t 4)),
               .r 21 (.ld1 (.t 20)),
               .c 22 (.f 29) [.t 21, .c (.d (.int .i64 0)), .c (.d (.int .i64 1000000000000000))],
               .r 23 (.not (.t 22)),
               .r 24 (.mv (.t 23)),
               .g 24 false (some 25) (.r 25 (.fld 2 (.t 4))),
               .g 24 false (some 26) (.r 26 (.ld1 (.t 25))),
               .g 24 false (some 27) (.c 27 (.f 29) [.t 26, .c (.d (.int .i64 0)), .c (.d (.int .i64 2000000000000000))]),
               .g 24 false (some 28) (.r 28 (.not (.t 27))),
               .r 29 (.pick (.t 24) (.c (.d (.bool true))) (.t 28)),
               .r 19 (.mv (.t 29))])
            (.cond (.t 19)
              (.seq (.reg [.r 2 (.mv (.c (.d (.int .i64 1))))])
              .ret)
              (.seq (.reg [.r 31 (.fld 2 (.t 4)),
                 .r 32 (.ld1 (.t 31)),
                 .r 33 (.fld 1 (.t 4)),
                 .r 34 (.ld1 (.t 33)),
                 .r 35 (.bin .leq (.t 32) (.t 34)),
                 .r 30 (.mv (.t 35))])
              (.cond (.t 30)
                (.seq (.reg [.r 2 (.mv (.c (.d (.int .i64 8))))])
                .ret)
                .skip)))))))))
      (.reg [.r 36 (.bin .add (.t 10) (.c (.d (.int .i64 1)))),
         .r 10 (.mv (.t 36))])))))))
  (.seq (.reg [.r 2 (.mv (.c (.d (.int .i64 0))))])
  .ret))))
theorem fit_interchangeref12_CheckOutages : fits Tryd.prog 12 Tryd.f12 sc_interchangeref12_CheckOutages [.t 2] 1 = true := by kernel_rfl

/-- slices.Equal[[]interchange/api.Sent,interchange/api.Sent] -/
def sc_slices_Equal_interchange_api_Sent_interchange_api_Sent : SC :=
  (.seq (.reg [.r 4 (.mv (.c (.d (.bool false))))])
  (.seq (.seq (.reg [.r 6 (.mv (.t 0)),
     .r 7 (.len (.t 6)),
     .r 8 (.mv (.t 1)),
     .r 9 (.len (.t 8)),
     .r 10 (.bin .neq (.t 7) (.t 9))])
  (.cond (.t 10)
    (.seq (.reg [.r 4 (.mv (.c (.d (.bool false))))])
    .ret)
    .skip))
  (.seq (.seq (.reg [.r 11 (.mv (.t 0)),
     .r 12 (.len (.t 11)),
     .r 13 (.mv (.c (.d (.int .i64 0))))])
  (.block 0 (.loop (.seq (.reg [.r 14 (.bin .lss (.t 13) (.t 12))])
      (.seq (.cond (.t 14)
        .skip
        (.exit 0))
      (.seq (.block 1 (.seq (.reg [.r 15 (.mv (.t 13)),
           .r 5 (.mv (.t 15))])
        (.seq (.regD [.r 16 (.mv (.t 0)),
           .r 17 (.mv (.t 5)),
           .r 18 (.idx 3 (.t 16) (.t 17)),
           .r 19 (.ldA 3 (.t 18)),
           .r 20 (.mv (.t 1)),
           .r 21 (.mv (.t 5)),
           .r 22 (.idx 3 (.t 20) (.t 21)),
           .r 23 (.ldA 3 (.t 22)),
           .r 24 (.eqs .neq [(.int .i64), (.int .i64), (.int .i64)] (.t 19) (.t 23))])
        (.cond (.t 24)
          (.seq (.reg [.r 4 (.mv (.c (.d (.bool false))))])
          .ret)
          .skip))))
      (.reg [.r 25 (.bin .add (.t 13) (.c (.d (.int .i64 1)))),
         .r 13 (.mv (.t 25))])))))))
  (.seq (.reg [.r 4 (.mv (.c (.d (.bool true))))])
  .ret))))
theorem fit_slices_Equal_interchange_api_Sent_interchange_api_Sent : fits Tryd.prog 13 Tryd.f13 sc_slices_Equal_interchange_api_Sent_interchange_api_Sent [.t 4] 2 = true := by kernel_rfl

/-- interchange/interchangelaw12.works -/
def sc_interchangelaw12_works : SC :=
  (.seq (.reg [.r 0 (.mv (.c (.d (.bool false))))])
  (.seq (.reg [.r 4 (.build [.d (.int .i64 0), .d (.int .i64 0), .d (.int .i64 0), .d (.int .i64 0), .d (.bool false)] [(0, 1, .c (.d (.int .i64 5))), (1, 1, .c (.d (.int .i64 3))), (2, 1, .c (.d (.int .i64 20))), (3, 1, .c (.d (.int .i64 4)))]),
     .c 5 (.f 31) [.t 4],
     .r 3 (.mv (.t 5)),
     .r 6 (.ext (.t 3) 0),
     .r 7 (.ext (.t 3) 1),
     .r 1 (.mv (.t 6)),
     .r 2 (.mv (.t 7))])
  (.seq (.reg [.r 8 (.mv (.t 2)),
     .r 9 (.bin .eql (.t 8) (.c (.d (.int .i64 0)))),
     .r 10 (.mv (.t 9)),
     .g 10 true (some 11) (.r 11 (.mv (.t 1))),
     .g 10 true (some 12) (.r 12 (.bslice 1 [.c (.d (.int .i64 5)), .c (.d (.int .i64 15)), .c (.d (.int .i64 20))])),
     .g 10 true (some 13) (.c 13 (.f 20) [.t 11, .t 12]),
     .r 14 (.pick (.t 10) (.t 13) (.c (.d (.bool false)))),
     .r 0 (.mv (.t 14))])
  .ret)))
theorem fit_interchangelaw12_works : fits Tryd.prog 14 Tryd.f14 sc_interchangelaw12_works [.t 0] 0 = true := by kernel_rfl

/-- interchange/desk.Patience -/
def sc_desk_Patience : SC :=
  (.seq (.reg [.r 1 (.boxI (.t 0)),
     .r 2 (.mv (.c (.d (.int .i64 0)))),
     .r 3 (.mv (.c (.d (.int .i64 0))))])
  (.seq (.seq (.reg [.r 8 (.ldA 5 (.t 1)),
     .c 9 (.f 32) [.t 8],
     .r 4 (.mv (.t 9))])
  (.seq (.reg [.r 10 (.mv (.t 4)),
     .r 11 (.bin .neq (.t 10) (.c (.d (.int .i64 0))))])
  (.cond (.t 11)
    (.seq (.reg [.r 12 (.mv (.t 4)),
       .r 2 (.mv (.c (.d (.int .i64 0)))),
       .r 3 (.mv (.t 12))])
    .ret)
    .skip)))
  (.seq (.reg [.r 5 (.mv (.c (.d (.int .i64 0))))])
  (.seq (.seq (.reg [.r 13 (.ldA 5 (.t 1)),
     .c 14 (.f 33) [.t 13],
     .r 15 (.len (.t 14)),
     .r 16 (.mv (.c (.d (.int .i64 0))))])
  (.block 0 (.loop (.seq (.reg [.r 17 (.bin .lss (.t 16) (.t 15))])
      (.seq (.cond (.t 17)
        .skip
        (.exit 0))
      (.seq (.block 1 (.seq (.reg [.r 18 (.idx 1 (.t 14) (.t 16)),
           .r 19 (.ld1 (.t 18)),
           .r 7 (.mv (.t 19))])
        (.reg [.r 20 (.mv (.t 5)),
           .r 21 (.mv (.t 7)),
           .r 22 (.bin .add (.t 20) (.t 21)),
           .r 5 (.mv (.t 22))])))
      (.reg [.r 23 (.bin .add (.t 16) (.c (.d (.int .i64 1)))),
         .r 16 (.mv (.t 23))])))))))
  (.seq (.reg [.r 24 (.mv (.t 5)),
     .r 2 (.mv (.t 24)),
     .r 3 (.mv (.c (.d (.int .i64 0))))])
  .ret)))))
theorem fit_desk_Patience : fits Tryd.prog 15 Tryd.f15 sc_desk_Patience [.t 2, .t 3] 1 = true := by kernel_rfl

/-- interchange/interchangeref12.Begins -/
def sc_interchangeref12_Begins : SC :=
  (.seq (.reg [.r 4 (.boxI (.t 0)),
     .r 8 (.mv (.c (.d (.int .i64 0))))])
  (.seq (.reg [.r 11 (.mv (.t 1)),
     .r 12 (.mv (.t 3)),
     .r 13 (.idx 2 (.t 11) (.t 12)),
     .r 14 (.fld 1 (.t 13)),
     .r 15 (.ld1 (.t 14)),
     .r 9 (.mv (.t 15))])
  (.seq (.seq (.reg [.r 16 (.mv (.t 3)),
     .r 17 (.mv (.c (.d (.int .i64 0))))])
  (.block 0 (.loop (.seq (.reg [.r 18 (.bin .lss (.t 17) (.t 16))])
      (.seq (.cond (.t 18)
        .skip
        (.exit 0))
      (.seq (.block 1 (.seq (.reg [.r 19 (.mv (.t 17)),
           .r 10 (.mv (.t 19))])
        (.seq (.regD [.r 20 (.fld 4 (.t 4)),
           .r 21 (.ld1 (.t 20)),
           .r 22 (.mv (.t 21)),
           .g 22 true (some 23) (.r 23 (.mv (.t 1))),
           .g 22 true (some 24) (.r 24 (.mv (.t 10))),
           .g 22 true (some 25) (.r 25 (.idx 2 (.t 23) (.t 24))),
           .g 22 true (some 26) (.r 26 (.fld 0 (.t 25))),
           .g 22 true (some 27) (.r 27 (.ld1 (.t 26))),
           .g 22 true (some 28) (.r 28 (.mv (.t 1))),
           .g 22 true (some 29) (.r 29 (.mv (.t 3))),
           .g 22 true (some 30) (.r 30 (.idx 2 (.t 28) (.t 29))),
           .g 22 true (some 31) (.r 31 (.fld 0 (.t 30))),
           .g 22 true (some 32) (.r 32 (.ld1 (.t 31))),
           .g 22 true (some 33) (.r 33 (.bin .eql (.t 27) (.t 32))),
           .r 34 (.pick (.t 22) (.t 33) (.c (.d (.bool false))))])
        (.cond (.t 34)
          (.regD [.r 35 (.mv (.t 9)),
             .r 36 (.mv (.t 2)),
             .r 37 (.mv (.t 10)),
             .r 38 (.idx 3 (.t 36) (.t 37)),
             .r 39 (.fld 1 (.t 38)),
             .r 40 (.ld1 (.t 39)),
             .r 41 (.mv (.t 2)),
             .r 42 (.mv (.t 10)),
             .r 43 (.idx 3 (.t 41) (.t 42)),
             .r 44 (.fld 2 (.t 43)),
             .r 45 (.ld1 (.t 44)),
             .r 46 (.maxs (.t 35) [.t 40, .t 45]),
             .r 9 (.mv (.t 46))])
          .skip))))
      (.reg [.r 47 (.bin .add (.t 17) (.c (.d (.int .i64 1)))),
         .r 17 (.mv (.t 47))])))))))
  (.seq (.reg [.r 48 (.mv (.t 9)),
     .r 8 (.mv (.t 48))])
  .ret))))
theorem fit_interchangeref12_Begins : fits Tryd.prog 16 Tryd.f16 sc_interchangeref12_Begins [.t 8] 4 = true := by kernel_rfl

/-- interchange/interchangeref12.Answers -/
def sc_interchangeref12_Answers : SC :=
  (.seq (.reg [.r 6 (.mv (.c (.d (.bool false))))])
  (.seq (.reg [.r 7 (.mv (.t 0)),
     .r 8 (.mv (.t 1)),
     .r 9 (.mv (.t 2)),
     .c 10 (.f 34) [.t 7, .t 8, .t 9],
     .r 6 (.mv (.t 10))])
  .ret))
theorem fit_interchangeref12_Answers : fits Tryd.prog 17 Tryd.f17 sc_interchangeref12_Answers [.t 6] 3 = true := by kernel_rfl

/-- interchange/desk.PendingAt -/
def sc_desk_PendingAt : SC :=
  (.seq (.reg [.r 4 (.boxI (.t 0)),
     .r 8 (.mv (.c (.nils))),
     .r 9 (.mv (.c (.d (.int .i64 0))))])
  (.seq (.seq (.reg [.r 16 (.ldA 5 (.t 4)),
     .r 17 (.mv (.t 1)),
     .r 18 (.mv (.t 2)),
     .c 19 (.f 22) [.t 16, .t 17, .t 18],
     .r 10 (.mv (.t 19))])
  (.seq (.reg [.r 20 (.mv (.t 10)),
     .r 21 (.bin .neq (.t 20) (.c (.d (.int .i64 0))))])
  (.cond (.t 21)
    (.seq (.reg [.r 22 (.mv (.t 10)),
       .r 8 (.mv (.c (.nils))),
       .r 9 (.mv (.t 22))])
    .ret)
    .skip)))
  (.seq (.seq (.reg [.r 23 (.mv (.t 3)),
     .c 24 (.f 30) [.t 23, .c (.d (.int .i64 0)), .c (.d (.int .i64 2000000000000000))]])
  (.cond (.t 24)
    (.seq (.reg [.r 8 (.mv (.c (.nils))),
       .r 9 (.mv (.c (.d (.int .i64 1))))])
    .ret)
    .skip))
  (.seq (.reg [.r 26 (.ldA 5 (.t 4)),
     .r 27 (.mv (.t 1)),
     .r 28 (.mv (.t 2)),
     .c 29 (.f 23) [.t 26, .t 27, .t 28],
     .r 25 (.mv (.t 29)),
     .r 30 (.ext (.t 25) 0),
     .r 31 (.ext (.t 25) 1),
     .r 11 (.mv (.t 30)),
     .r 12 (.mv (.t 31))])
  (.seq (.seq (.reg [.r 32 (.mv (.t 12)),
     .r 33 (.bin .neq (.t 32) (.c (.d (.int .i64 0))))])
  (.cond (.t 33)
    (.seq (.reg [.r 34 (.mv (.t 12)),
       .r 8 (.mv (.c (.nils))),
       .r 9 (.mv (.t 34))])
    .ret)
    .skip))
  (.seq (.reg [.r 13 (.mv (.c (.nils)))])
  (.seq (.seq (.reg [.r 35 (.mv (.t 11)),
     .r 36 (.len (.t 35)),
     .r 37 (.mv (.c (.d (.int .i64 0))))])
  (.block 0 (.gh (.vecnil 13 61 3 1) (.loop (.seq (.reg [.r 38 (.bin .lss (.t 37) (.t 36))])
      (.seq (.cond (.t 38)
        .skip
        (.exit 0))
      (.seq (.block 1 (.seq (.reg [.r 39 (.mv (.t 37)),
           .r 40 (.idx 3 (.t 35) (.t 37)),
           .r 41 (.ldA 3 (.t 40)),
           .w 15 (.boxM (.c (.agg [.d (.int .i64 0), .d (.int .i64 0), .d (.int .i64 0)]))),
           .r 14 (.mv (.t 39)),
           .w 0 (.st 3 (.t 15) (.t 41))])
        (.seq (.reg [.r 42 (.mv (.t 1)),
           .r 43 (.mv (.t 14)),
           .r 44 (.idx 2 (.t 42) (.t 43)),
           .r 45 (.fld 1 (.t 44)),
           .r 46 (.ld1 (.t 45)),
           .r 47 (.mv (.t 3)),
           .r 48 (.bin .leq (.t 46) (.t 47)),
           .r 49 (.mv (.t 48)),
           .g 49 true (some 50) (.r 50 (.fld 1 (.t 15))),
           .g 49 true (some 51) (.r 51 (.ld1 (.t 50))),
           .g 49 true (some 52) (.r 52 (.fld 2 (.t 15))),
           .g 49 true (some 53) (.r 53 (.ld1 (.t 52))),
           .g 49 true (some 54) (.r 54 (.maxs (.t 51) [.t 53])),
           .g 49 true (some 55) (.r 55 (.mv (.t 3))),
           .g 49 true (some 56) (.r 56 (.bin .gtr (.t 54) (.t 55))),
           .r 57 (.pick (.t 49) (.t 56) (.c (.d (.bool false))))])
        (.cond (.t 57)
          (.reg [.r 58 (.mv (.t 13)),
             .r 59 (.mv (.t 14)),
             .r 60 (.bslice 1 [.t 59]),
             .w 61 (.app 3 1 (.t 58) (.t 60)),
             .r 13 (.mv (.t 61))])
          .skip))))
      (.reg [.r 62 (.bin .add (.t 37) (.c (.d (.int .i64 1)))),
         .r 37 (.mv (.t 62))]))))))))
  (.seq (.reg [.r 63 (.mv (.t 13)),
     .r 8 (.mv (.t 63)),
     .r 9 (.mv (.c (.d (.int .i64 0))))])
  .ret))))))))
theorem fit_desk_PendingAt : fits Tryd.prog 18 Tryd.f18 sc_desk_PendingAt [.t 8, .t 9] 4 = true := by kernel_rfl

/-- interchange/interchangeref12.PendingAt -/
def sc_interchangeref12_PendingAt : SC :=
  (.seq (.reg [.r 4 (.boxI (.t 0)),
     .r 8 (.mv (.c (.nils))),
     .r 9 (.mv (.c (.d (.int .i64 0))))])
  (.seq (.seq (.reg [.r 16 (.ldA 5 (.t 4)),
     .r 17 (.mv (.t 1)),
     .r 18 (.mv (.t 2)),
     .c 19 (.f 24) [.t 16, .t 17, .t 18],
     .r 10 (.mv (.t 19))])
  (.seq (.reg [.r 20 (.mv (.t 10)),
     .r 21 (.bin .neq (.t 20) (.c (.d (.int .i64 0))))])
  (.cond (.t 21)
    (.seq (.reg [.r 22 (.mv (.t 10)),
       .r 8 (.mv (.c (.nils))),
       .r 9 (.mv (.t 22))])
    .ret)
    .skip)))
  (.seq (.seq (.reg [.r 23 (.mv (.t 3)),
     .c 24 (.f 29) [.t 23, .c (.d (.int .i64 0)), .c (.d (.int .i64 2000000000000000))],
     .r 25 (.not (.t 24))])
  (.cond (.t 25)
    (.seq (.reg [.r 8 (.mv (.c (.nils))),
       .r 9 (.mv (.c (.d (.int .i64 1))))])
    .ret)
    .skip))
  (.seq (.reg [.r 27 (.ldA 5 (.t 4)),
     .r 28 (.mv (.t 1)),
     .r 29 (.mv (.t 2)),
     .c 30 (.f 25) [.t 27, .t 28, .t 29],
     .r 26 (.mv (.t 30)),
     .r 31 (.ext (.t 26) 0),
     .r 32 (.ext (.t 26) 1),
     .r 11 (.mv (.t 31)),
     .r 12 (.mv (.t 32))])
  (.seq (.seq (.reg [.r 33 (.mv (.t 12)),
     .r 34 (.not (.t 33))])
  (.cond (.t 34)
    (.seq (.reg [.r 8 (.mv (.c (.nils))),
       .r 9 (.mv (.c (.d (.int .i64 1))))])
    .ret)
    .skip))
  (.seq (.reg [.r 13 (.mv (.c (.nils)))])
  (.seq (.seq (.reg [.r 35 (.mv (.t 11)),
     .r 36 (.len (.t 35)),
     .r 37 (.mv (.c (.d (.int .i64 0))))])
  (.block 0 (.gh (.vecnil 13 61 3 1) (.loop (.seq (.reg [.r 38 (.bin .lss (.t 37) (.t 36))])
      (.seq (.cond (.t 38)
        .skip
        (.exit 0))
      (.seq (.block 1 (.seq (.reg [.r 39 (.mv (.t 37)),
           .r 40 (.idx 3 (.t 35) (.t 37)),
           .r 41 (.ldA 3 (.t 40)),
           .w 15 (.boxM (.c (.agg [.d (.int .i64 0), .d (.int .i64 0), .d (.int .i64 0)]))),
           .r 14 (.mv (.t 39)),
           .w 0 (.st 3 (.t 15) (.t 41))])
        (.seq (.reg [.r 42 (.mv (.t 1)),
           .r 43 (.mv (.t 14)),
           .r 44 (.idx 2 (.t 42) (.t 43)),
           .r 45 (.fld 1 (.t 44)),
           .r 46 (.ld1 (.t 45)),
           .r 47 (.mv (.t 3)),
           .r 48 (.bin .leq (.t 46) (.t 47)),
           .r 49 (.mv (.t 48)),
           .g 49 true (some 50) (.r 50 (.fld 1 (.t 15))),
           .g 49 true (some 51) (.r 51 (.ld1 (.t 50))),
           .g 49 true (some 52) (.r 52 (.fld 2 (.t 15))),
           .g 49 true (some 53) (.r 53 (.ld1 (.t 52))),
           .g 49 true (some 54) (.r 54 (.maxs (.t 51) [.t 53])),
           .g 49 true (some 55) (.r 55 (.mv (.t 3))),
           .g 49 true (some 56) (.r 56 (.bin .gtr (.t 54) (.t 55))),
           .r 57 (.pick (.t 49) (.t 56) (.c (.d (.bool false))))])
        (.cond (.t 57)
          (.reg [.r 58 (.mv (.t 13)),
             .r 59 (.mv (.t 14)),
             .r 60 (.bslice 1 [.t 59]),
             .w 61 (.app 3 1 (.t 58) (.t 60)),
             .r 13 (.mv (.t 61))])
          .skip))))
      (.reg [.r 62 (.bin .add (.t 37) (.c (.d (.int .i64 1)))),
         .r 37 (.mv (.t 62))]))))))))
  (.seq (.reg [.r 63 (.mv (.t 13)),
     .r 8 (.mv (.t 63)),
     .r 9 (.mv (.c (.d (.int .i64 0))))])
  .ret))))))))
theorem fit_interchangeref12_PendingAt : fits Tryd.prog 19 Tryd.f19 sc_interchangeref12_PendingAt [.t 8, .t 9] 4 = true := by kernel_rfl

/-- slices.Equal[[]int,int] -/
def sc_slices_Equal_int_int : SC :=
  (.seq (.reg [.r 4 (.mv (.c (.d (.bool false))))])
  (.seq (.seq (.reg [.r 6 (.mv (.t 0)),
     .r 7 (.len (.t 6)),
     .r 8 (.mv (.t 1)),
     .r 9 (.len (.t 8)),
     .r 10 (.bin .neq (.t 7) (.t 9))])
  (.cond (.t 10)
    (.seq (.reg [.r 4 (.mv (.c (.d (.bool false))))])
    .ret)
    .skip))
  (.seq (.seq (.reg [.r 11 (.mv (.t 0)),
     .r 12 (.len (.t 11)),
     .r 13 (.mv (.c (.d (.int .i64 0))))])
  (.block 0 (.loop (.seq (.reg [.r 14 (.bin .lss (.t 13) (.t 12))])
      (.seq (.cond (.t 14)
        .skip
        (.exit 0))
      (.seq (.block 1 (.seq (.reg [.r 15 (.mv (.t 13)),
           .r 5 (.mv (.t 15))])
        (.seq (.regD [.r 16 (.mv (.t 0)),
           .r 17 (.mv (.t 5)),
           .r 18 (.idx 1 (.t 16) (.t 17)),
           .r 19 (.ld1 (.t 18)),
           .r 20 (.mv (.t 1)),
           .r 21 (.mv (.t 5)),
           .r 22 (.idx 1 (.t 20) (.t 21)),
           .r 23 (.ld1 (.t 22)),
           .r 24 (.bin .neq (.t 19) (.t 23))])
        (.cond (.t 24)
          (.seq (.reg [.r 4 (.mv (.c (.d (.bool false))))])
          .ret)
          .skip))))
      (.reg [.r 25 (.bin .add (.t 13) (.c (.d (.int .i64 1)))),
         .r 13 (.mv (.t 25))])))))))
  (.seq (.reg [.r 4 (.mv (.c (.d (.bool true))))])
  .ret))))
theorem fit_slices_Equal_int_int : fits Tryd.prog 20 Tryd.f20 sc_slices_Equal_int_int [.t 4] 2 = true := by kernel_rfl

/-- slices.Contains[[]int,int] -/
def sc_slices_Contains_int_int : SC :=
  (.seq (.reg [.r 4 (.mv (.c (.d (.bool false))))])
  (.seq (.reg [.r 5 (.mv (.t 0)),
     .r 6 (.mv (.t 1)),
     .c 7 (.f 35) [.t 5, .t 6],
     .r 8 (.bin .geq (.t 7) (.c (.d (.int .i64 0)))),
     .r 4 (.mv (.t 8))])
  .ret))
theorem fit_slices_Contains_int_int : fits Tryd.prog 21 Tryd.f21 sc_slices_Contains_int_int [.t 4] 2 = true := by kernel_rfl

/-- interchange/desk.boxFault -/
def sc_desk_boxFault : SC :=
  (.seq (.reg [.r 3 (.boxI (.t 0)),
     .r 6 (.mv (.c (.d (.int .i64 0))))])
  (.seq (.seq (.reg [.r 9 (.ldA 5 (.t 3)),
     .c 10 (.f 32) [.t 9],
     .r 7 (.mv (.t 10))])
  (.seq (.reg [.r 11 (.mv (.t 7)),
     .r 12 (.bin .neq (.t 11) (.c (.d (.int .i64 0))))])
  (.cond (.t 12)
    (.seq (.reg [.r 13 (.mv (.t 7)),
       .r 6 (.mv (.t 13))])
    .ret)
    .skip)))
  (.seq (.seq (.reg [.r 14 (.mv (.t 1)),
     .c 15 (.f 9) [.t 14],
     .r 8 (.mv (.t 15))])
  (.seq (.reg [.r 16 (.mv (.t 8)),
     .r 17 (.bin .neq (.t 16) (.c (.d (.int .i64 0))))])
  (.cond (.t 17)
    (.seq (.reg [.r 18 (.mv (.t 8)),
       .r 6 (.mv (.t 18))])
    .ret)
    .skip)))
  (.seq (.reg [.r 19 (.mv (.t 2)),
     .c 20 (.f 11) [.t 19],
     .r 6 (.mv (.t 20))])
  .ret))))
theorem fit_desk_boxFault : fits Tryd.prog 22 Tryd.f22 sc_desk_boxFault [.t 6] 3 = true := by kernel_rfl

/-- interchange/desk.outbox -/
def sc_desk_outbox : SC :=
  (.seq (.reg [.r 3 (.boxI (.t 0)),
     .r 6 (.mv (.c (.nils))),
     .r 7 (.mv (.c (.d (.int .i64 0))))])
  (.seq (.reg [.r 8 (.mv (.c (.nils)))])
  (.seq (.reg [.w 16 (.mkmap .str),
     .r 9 (.mv (.t 16))])
  (.seq (.reg [.r 17 (.ldA 5 (.t 3)),
     .c 18 (.f 33) [.t 17],
     .r 10 (.mv (.t 18))])
  (.seq (.seq (.reg [.r 19 (.mv (.t 1)),
     .r 20 (.len (.t 19)),
     .r 21 (.mv (.c (.d (.int .i64 0))))])
  (.block 0 (.gh (.vecnil 8 61 34 3) (.loop (.seq (.reg [.r 22 (.bin .lss (.t 21) (.t 20))])
      (.seq (.cond (.t 22)
        .skip
        (.exit 0))
      (.seq (.block 1 (.seq (.reg [.r 23 (.idx 2 (.t 19) (.t 21)),
           .r 24 (.ldA 2 (.t 23)),
           .w 12 (.boxM (.c (.agg [.d (.str []), .d (.int .i64 0)]))),
           .w 0 (.st 2 (.t 12) (.t 24))])
        (.seq (.reg [.r 25 (.fld 1 (.t 12)),
           .r 26 (.ld1 (.t 25)),
           .r 13 (.mv (.t 26))])
        (.seq (.seq (.reg [.r 27 (.fld 4 (.t 3)),
           .r 28 (.ld1 (.t 27))])
        (.cond (.t 28)
          (.reg [.r 29 (.mv (.t 13)),
             .r 30 (.mv (.t 9)),
             .r 31 (.fld 0 (.t 12)),
             .r 32 (.ld1 (.t 31)),
             .r 33 (.look .str (.int .i64 0) false (.t 30) (.t 32)),
             .r 34 (.maxs (.t 29) [.t 33]),
             .r 13 (.mv (.t 34))])
          .skip))
        (.seq (.reg [.r 36 (.mv (.t 10)),
           .r 37 (.mv (.t 2)),
           .r 38 (.fld 0 (.t 12)),
           .r 39 (.ld1 (.t 38)),
           .r 40 (.mv (.t 13)),
           .c 41 (.f 36) [.t 36, .t 37, .t 39, .t 40],
           .r 35 (.mv (.t 41)),
           .r 42 (.ext (.t 35) 0),
           .r 43 (.ext (.t 35) 1),
           .w 14 (.boxM (.c (.agg [.d (.int .i64 0), .d (.int .i64 0), .d (.int .i64 0)]))),
           .w 0 (.st 3 (.t 14) (.t 42)),
           .r 15 (.mv (.t 43))])
        (.seq (.seq (.reg [.r 44 (.mv (.t 15)),
           .r 45 (.not (.t 44))])
        (.cond (.t 45)
          (.seq (.reg [.r 6 (.mv (.c (.nils))),
             .r 7 (.mv (.c (.d (.int .i64 1))))])
          .ret)
          .skip))
        (.seq (.reg [.r 46 (.mv (.t 9)),
           .r 47 (.fld 0 (.t 12)),
           .r 48 (.ld1 (.t 47)),
           .r 49 (.mv (.t 9)),
           .r 50 (.fld 0 (.t 12)),
           .r 51 (.ld1 (.t 50)),
           .r 52 (.look .str (.int .i64 0) false (.t 49) (.t 51)),
           .r 53 (.fld 1 (.t 14)),
           .r 54 (.ld1 (.t 53)),
           .r 55 (.fld 2 (.t 14)),
           .r 56 (.ld1 (.t 55)),
           .r 57 (.maxs (.t 52) [.t 54, .t 56]),
           .w 0 (.mset .str (.t 46) (.t 48) (.t 57))])
        (.reg [.r 58 (.mv (.t 8)),
           .r 59 (.ldA 3 (.t 14)),
           .r 60 (.bslice 3 [.t 59]),
           .w 61 (.app 34 3 (.t 58) (.t 60)),
           .r 8 (.mv (.t 61))]))))))))
      (.reg [.r 62 (.bin .add (.t 21) (.c (.d (.int .i64 1)))),
         .r 21 (.mv (.t 62))]))))))))
  (.seq (.reg [.r 63 (.mv (.t 8)),
     .r 6 (.mv (.t 63)),
     .r 7 (.mv (.c (.d (.int .i64 0))))])
  .ret))))))
theorem fit_desk_outbox : fits Tryd.prog 23 Tryd.f23 sc_desk_outbox [.t 6, .t 7] 3 = true := by kernel_rfl

/-- interchange/interchangeref12.askQueue -/
def sc_interchangeref12_askQueue : SC :=
  (.seq (.reg [.r 3 (.boxI (.t 0)),
     .r 6 (.mv (.c (.d (.int .i64 0))))])
  (.seq (.seq (.reg [.r 9 (.ldA 5 (.t 3)),
     .c 10 (.f 37) [.t 9],
     .r 7 (.mv (.t 10))])
  (.seq (.reg [.r 11 (.mv (.t 7)),
     .r 12 (.bin .neq (.t 11) (.c (.d (.int .i64 0))))])
  (.cond (.t 12)
    (.seq (.reg [.r 13 (.mv (.t 7)),
       .r 6 (.mv (.t 13))])
    .ret)
    .skip)))
  (.seq (.seq (.reg [.r 14 (.mv (.t 1)),
     .c 15 (.f 10) [.t 14],
     .r 8 (.mv (.t 15))])
  (.seq (.reg [.r 16 (.mv (.t 8)),
     .r 17 (.bin .neq (.t 16) (.c (.d (.int .i64 0))))])
  (.cond (.t 17)
    (.seq (.reg [.r 18 (.mv (.t 8)),
       .r 6 (.mv (.t 18))])
    .ret)
    .skip)))
  (.seq (.reg [.r 19 (.mv (.t 2)),
     .c 20 (.f 12) [.t 19],
     .r 6 (.mv (.t 20))])
  .ret))))
theorem fit_interchangeref12_askQueue : fits Tryd.prog 24 Tryd.f24 sc_interchangeref12_askQueue [.t 6] 3 = true := by kernel_rfl

/-- interchange/interchangeref12.outbox -/
def sc_interchangeref12_outbox : SC :=
  (.seq (.reg [.r 3 (.boxI (.t 0)),
     .r 6 (.mv (.c (.nils))),
     .r 7 (.mv (.c (.d (.bool false))))])
  (.seq (.reg [.r 8 (.mv (.c (.nils)))])
  (.seq (.seq (.reg [.r 15 (.mv (.t 1)),
     .r 16 (.len (.t 15)),
     .r 17 (.mv (.c (.d (.int .i64 0))))])
  (.block 0 (.gh (.vecnil 8 67 34 3) (.loop (.seq (.reg [.r 18 (.bin .lss (.t 17) (.t 16))])
      (.seq (.cond (.t 18)
        .skip
        (.exit 0))
      (.seq (.block 1 (.seq (.reg [.r 19 (.mv (.t 17)),
           .r 20 (.idx 2 (.t 15) (.t 17)),
           .r 21 (.ldA 2 (.t 20)),
           .w 10 (.boxM (.c (.agg [.d (.str []), .d (.int .i64 0)]))),
           .r 9 (.mv (.t 19)),
           .w 0 (.st 2 (.t 10) (.t 21))])
        (.seq (.reg [.r 22 (.fld 1 (.t 10)),
           .r 23 (.ld1 (.t 22)),
           .r 11 (.mv (.t 23))])
        (.seq (.seq (.reg [.r 24 (.mv (.t 9)),
           .r 25 (.mv (.c (.d (.int .i64 0))))])
        (.block 2 (.loop (.seq (.reg [.r 26 (.bin .lss (.t 25) (.t 24))])
            (.seq (.cond (.t 26)
              .skip
              (.exit 2))
            (.seq (.block 3 (.seq (.reg [.r 27 (.mv (.t 25)),
                 .r 12 (.mv (.t 27))])
              (.seq (.regD [.r 28 (.fld 4 (.t 3)),
                 .r 29 (.ld1 (.t 28)),
                 .r 30 (.mv (.t 29)),
                 .g 30 true (some 31) (.r 31 (.mv (.t 1))),
                 .g 30 true (some 32) (.r 32 (.mv (.t 12))),
                 .g 30 true (some 33) (.r 33 (.idx 2 (.t 31) (.t 32))),
                 .g 30 true (some 34) (.r 34 (.fld 0 (.t 33))),
                 .g 30 true (some 35) (.r 35 (.ld1 (.t 34))),
                 .g 30 true (some 36) (.r 36 (.fld 0 (.t 10))),
                 .g 30 true (some 37) (.r 37 (.ld1 (.t 36))),
                 .g 30 true (some 38) (.r 38 (.bin .eql (.t 35) (.t 37))),
                 .r 39 (.pick (.t 30) (.t 38) (.c (.d (.bool false))))])
              (.cond (.t 39)
                (.regD [.r 40 (.mv (.t 11)),
                   .r 41 (.mv (.t 8)),
                   .r 42 (.mv (.t 12)),
                   .r 43 (.idx 3 (.t 41) (.t 42)),
                   .r 44 (.fld 1 (.t 43)),
                   .r 45 (.ld1 (.t 44)),
                   .r 46 (.mv (.t 8)),
                   .r 47 (.mv (.t 12)),
                   .r 48 (.idx 3 (.t 46) (.t 47)),
                   .r 49 (.fld 2 (.t 48)),
                   .r 50 (.ld1 (.t 49)),
                   .r 51 (.maxs (.t 40) [.t 45, .t 50]),
                   .r 11 (.mv (.t 51))])
                .skip))))
            (.reg [.r 52 (.bin .add (.t 25) (.c (.d (.int .i64 1)))),
               .r 25 (.mv (.t 52))])))))))
        (.seq (.reg [.r 54 (.ldA 5 (.t 3)),
           .r 55 (.fld 0 (.t 10)),
           .r 56 (.ld1 (.t 55)),
           .r 57 (.mv (.t 11)),
           .r 58 (.mv (.t 2)),
           .c 59 (.f 38) [.t 54, .t 56, .t 57, .t 58],
           .r 53 (.mv (.t 59)),
           .r 60 (.ext (.t 53) 0),
           .r 61 (.ext (.t 53) 1),
           .w 13 (.boxM (.c (.agg [.d (.int .i64 0), .d (.int .i64 0), .d (.int .i64 0)]))),
           .w 0 (.st 3 (.t 13) (.t 60)),
           .r 14 (.mv (.t 61))])
        (.seq (.seq (.reg [.r 62 (.mv (.t 14)),
           .r 63 (.bin .gtr (.t 62) (.c (.d (.int .i64 2000000000000000))))])
        (.cond (.t 63)
          (.seq (.reg [.r 6 (.mv (.c (.nils))),
             .r 7 (.mv (.c (.d (.bool false))))])
          .ret)
          .skip))
        (.reg [.r 64 (.mv (.t 8)),
           .r 65 (.ldA 3 (.t 13)),
           .r 66 (.bslice 3 [.t 65]),
           .w 67 (.app 34 3 (.t 64) (.t 66)),
           .r 8 (.mv (.t 67))])))))))
      (.reg [.r 68 (.bin .add (.t 17) (.c (.d (.int .i64 1)))),
         .r 17 (.mv (.t 68))]))))))))
  (.seq (.reg [.r 69 (.mv (.t 8)),
     .r 6 (.mv (.t 69)),
     .r 7 (.mv (.c (.d (.bool true))))])
  .ret))))
theorem fit_interchangeref12_outbox : fits Tryd.prog 25 Tryd.f25 sc_interchangeref12_outbox [.t 6, .t 7] 3 = true := by kernel_rfl

/-- interchange/kit.IsName -/
def sc_kit_IsName : SC :=
  (.seq (.reg [.r 2 (.mv (.c (.d (.bool false))))])
  (.seq (.seq (.reg [.r 3 (.mv (.t 0)),
     .r 4 (.lenT (.t 3)),
     .r 5 (.bin .lss (.t 4) (.c (.d (.int .i64 1)))),
     .r 6 (.mv (.t 5)),
     .g 6 false (some 7) (.r 7 (.mv (.t 0))),
     .g 6 false (some 8) (.r 8 (.lenT (.t 7))),
     .g 6 false (some 9) (.r 9 (.bin .gtr (.t 8) (.c (.d (.int .i64 40))))),
     .r 10 (.pick (.t 6) (.c (.d (.bool true))) (.t 9)),
     .r 11 (.mv (.t 10)),
     .g 11 false (some 12) (.r 12 (.mv (.t 0))),
     .g 11 false (some 13) (.r 13 (.sidx (.t 12) (.c (.d (.int .i64 0))))),
     .g 11 false (some 14) (.r 14 (.bin .lss (.t 13) (.c (.d (.int .u8 97))))),
     .r 15 (.pick (.t 11) (.c (.d (.bool true))) (.t 14)),
     .r 16 (.mv (.t 15)),
     .g 16 false (some 17) (.r 17 (.mv (.t 0))),
     .g 16 false (some 18) (.r 18 (.sidx (.t 17) (.c (.d (.int .i64 0))))),
     .g 16 false (some 19) (.r 19 (.bin .gtr (.t 18) (.c (.d (.int .u8 122))))),
     .r 20 (.pick (.t 16) (.c (.d (.bool true))) (.t 19))])
  (.cond (.t 20)
    (.seq (.reg [.r 2 (.mv (.c (.d (.bool false))))])
    .ret)
    .skip))
  (.seq (.reg [.r 21 (.mv (.t 0)),
     .c 22 (.f 39) [.t 21, .c (.d (.str [97, 98, 99, 100, 101, 102, 103, 104, 105, 106, 107, 108, 109, 110, 111, 112, 113, 114, 115, 116, 117, 118, 119, 120, 121, 122, 48, 49, 50, 51, 52, 53, 54, 55, 56, 57, 45]))],
     .r 23 (.bin .eql (.t 22) (.c (.d (.str [])))),
     .r 2 (.mv (.t 23))])
  .ret)))
theorem fit_kit_IsName : fits Tryd.prog 26 Tryd.f26 sc_kit_IsName [.t 2] 1 = true := by kernel_rfl

/-- interchange/kit.IsMoment -/
def sc_kit_IsMoment : SC :=
  (.seq (.reg [.r 2 (.mv (.c (.d (.bool false))))])
  (.seq (.reg [.r 3 (.mv (.t 0)),
     .c 4 (.f 30) [.t 3, .c (.d (.int .i64 0)), .c (.d (.int .i64 1000000000000000))],
     .r 5 (.not (.t 4)),
     .r 2 (.mv (.t 5))])
  .ret))
theorem fit_kit_IsMoment : fits Tryd.prog 27 Tryd.f27 sc_kit_IsMoment [.t 2] 1 = true := by kernel_rfl

/-- interchange/interchangeref1.IsName -/
def sc_interchangeref1_IsName : SC :=
  (.seq (.reg [.r 2 (.mv (.c (.d (.bool false))))])
  (.seq (.reg [.r 3 (.mv (.t 0)),
     .c 4 (.f 40) [.t 3],
     .r 2 (.mv (.t 4))])
  .ret))
theorem fit_interchangeref1_IsName : fits Tryd.prog 28 Tryd.f28 sc_interchangeref1_IsName [.t 2] 1 = true := by kernel_rfl

/-- interchange/interchangeref12.in -/
def sc_interchangeref12_in : SC :=
  (.seq (.reg [.r 6 (.mv (.c (.d (.bool false))))])
  (.seq (.reg [.r 7 (.mv (.t 1)),
     .r 8 (.mv (.t 0)),
     .r 9 (.bin .leq (.t 7) (.t 8)),
     .r 10 (.mv (.t 9)),
     .g 10 true (some 11) (.r 11 (.mv (.t 0))),
     .g 10 true (some 12) (.r 12 (.mv (.t 2))),
     .g 10 true (some 13) (.r 13 (.bin .leq (.t 11) (.t 12))),
     .r 14 (.pick (.t 10) (.t 13) (.c (.d (.bool false)))),
     .r 6 (.mv (.t 14))])
  .ret))
theorem fit_interchangeref12_in : fits Tryd.prog 29 Tryd.f29 sc_interchangeref12_in [.t 6] 3 = true := by kernel_rfl

/-- interchange/kit.Outside -/
def sc_kit_Outside : SC :=
  (.seq (.reg [.r 6 (.mv (.c (.d (.bool false))))])
  (.seq (.reg [.r 7 (.mv (.t 0)),
     .r 8 (.mv (.t 1)),
     .r 9 (.bin .lss (.t 7) (.t 8)),
     .r 10 (.mv (.t 9)),
     .g 10 false (some 11) (.r 11 (.mv (.t 0))),
     .g 10 false (some 12) (.r 12 (.mv (.t 2))),
     .g 10 false (some 13) (.r 13 (.bin .gtr (.t 11) (.t 12))),
     .r 14 (.pick (.t 10) (.c (.d (.bool true))) (.t 13)),
     .r 6 (.mv (.t 14))])
  .ret))
theorem fit_kit_Outside : fits Tryd.prog 30 Tryd.f30 sc_kit_Outside [.t 6] 3 = true := by kernel_rfl

/-- interchange/desk.Waits -/
def sc_desk_Waits : SC :=
  (.seq (.reg [.r 1 (.boxI (.t 0)),
     .r 2 (.mv (.c (.nils))),
     .r 3 (.mv (.c (.d (.int .i64 0))))])
  (.seq (.seq (.reg [.r 5 (.ldA 5 (.t 1)),
     .c 6 (.f 32) [.t 5],
     .r 4 (.mv (.t 6))])
  (.seq (.reg [.r 7 (.mv (.t 4)),
     .r 8 (.bin .neq (.t 7) (.c (.d (.int .i64 0))))])
  (.cond (.t 8)
    (.seq (.reg [.r 9 (.mv (.t 4)),
       .r 2 (.mv (.c (.nils))),
       .r 3 (.mv (.t 9))])
    .ret)
    .skip)))
  (.seq (.reg [.r 10 (.ldA 5 (.t 1)),
     .c 11 (.f 33) [.t 10],
     .r 2 (.mv (.t 11)),
     .r 3 (.mv (.c (.d (.int .i64 0))))])
  .ret)))
theorem fit_desk_Waits : fits Tryd.prog 31 Tryd.f31 sc_desk_Waits [.t 2, .t 3] 1 = true := by kernel_rfl

/-- interchange/desk.CheckPolicy -/
def sc_desk_CheckPolicy : SC :=
  (.seq (.reg [.r 1 (.boxI (.t 0)),
     .r 2 (.mv (.c (.d (.int .i64 0))))])
  (.seq (.seq (.reg [.r 3 (.fld 0 (.t 1)),
     .r 4 (.ld1 (.t 3)),
     .c 5 (.f 30) [.t 4, .c (.d (.int .i64 1)), .c (.d (.int .i64 1000000))],
     .r 6 (.mv (.t 5)),
     .g 6 false (some 7) (.r 7 (.fld 1 (.t 1))),
     .g 6 false (some 8) (.r 8 (.ld1 (.t 7))),
     .g 6 false (some 9) (.c 9 (.f 30) [.t 8, .c (.d (.int .i64 1)), .c (.d (.int .i64 10))]),
     .r 10 (.pick (.t 6) (.c (.d (.bool true))) (.t 9)),
     .r 11 (.mv (.t 10)),
     .g 11 false (some 12) (.r 12 (.fld 2 (.t 1))),
     .g 11 false (some 13) (.r 13 (.ld1 (.t 12))),
     .g 11 false (some 14) (.r 14 (.fld 0 (.t 1))),
     .g 11 false (some 15) (.r 15 (.ld1 (.t 14))),
     .g 11 false (some 16) (.c 16 (.f 30) [.t 13, .t 15, .c (.d (.int .i64 1000000))]),
     .r 17 (.pick (.t 11) (.c (.d (.bool true))) (.t 16)),
     .r 18 (.mv (.t 17)),
     .g 18 false (some 19) (.r 19 (.fld 3 (.t 1))),
     .g 18 false (some 20) (.r 20 (.ld1 (.t 19))),
     .g 18 false (some 21) (.c 21 (.f 30) [.t 20, .c (.d (.int .i64 1)), .c (.d (.int .i64 20))]),
     .r 22 (.pick (.t 18) (.c (.d (.bool true))) (.t 21))])
  (.cond (.t 22)
    (.seq (.reg [.r 2 (.mv (.c (.d (.int .i64 1))))])
    .ret)
    .skip))
  (.seq (.reg [.r 2 (.mv (.c (.d (.int .i64 0))))])
  .ret)))
theorem fit_desk_CheckPolicy : fits Tryd.prog 32 Tryd.f32 sc_desk_CheckPolicy [.t 2] 1 = true := by kernel_rfl

/-- interchange/desk.waits -/
def sc_desk_waits : SC :=
  (.seq (.reg [.r 1 (.boxI (.t 0)),
     .r 2 (.mv (.c (.nils)))])
  (.seq (.reg [.r 3 (.mv (.c (.nils)))])
  (.seq (.reg [.r 5 (.fld 0 (.t 1)),
     .r 6 (.ld1 (.t 5)),
     .r 4 (.mv (.t 6))])
  (.seq (.seq (.reg [.r 7 (.fld 3 (.t 1)),
     .r 8 (.ld1 (.t 7)),
     .r 9 (.bin .sub (.t 8) (.c (.d (.int .i64 1)))),
     .r 10 (.mv (.c (.d (.int .i64 0))))])
  (.block 0 (.gh (.vecnil 3 15 3 1) (.loop (.seq (.reg [.r 11 (.bin .lss (.t 10) (.t 9))])
      (.seq (.cond (.t 11)
        .skip
        (.exit 0))
      (.seq (.block 1 (.seq (.reg [.r 12 (.mv (.t 3)),
           .r 13 (.mv (.t 4)),
           .r 14 (.bslice 1 [.t 13]),
           .w 15 (.app 3 1 (.t 12) (.t 14)),
           .r 3 (.mv (.t 15))])
        (.reg [.r 16 (.mv (.t 4)),
           .r 17 (.fld 1 (.t 1)),
           .r 18 (.ld1 (.t 17)),
           .r 19 (.bin .mul (.t 16) (.t 18)),
           .r 20 (.fld 2 (.t 1)),
           .r 21 (.ld1 (.t 20)),
           .r 22 (.mins (.t 19) [.t 21]),
           .r 4 (.mv (.t 22))])))
      (.reg [.r 23 (.bin .add (.t 10) (.c (.d (.int .i64 1)))),
         .r 10 (.mv (.t 23))]))))))))
  (.seq (.reg [.r 24 (.mv (.t 3)),
     .r 2 (.mv (.t 24))])
  .ret)))))
theorem fit_desk_waits : fits Tryd.prog 33 Tryd.f33 sc_desk_waits [.t 2] 1 = true := by kernel_rfl

/-- interchange/interchangeref12.answers -/
def sc_interchangeref12_answers : SC :=
  (.seq (.reg [.r 6 (.mv (.c (.d (.bool false))))])
  (.seq (.seq (.reg [.r 9 (.mv (.t 0)),
     .r 10 (.len (.t 9)),
     .r 11 (.mv (.c (.d (.int .i64 0))))])
  (.block 0 (.loop (.seq (.reg [.r 12 (.bin .lss (.t 11) (.t 10))])
      (.seq (.cond (.t 12)
        .skip
        (.exit 0))
      (.seq (.block 1 (.seq (.reg [.r 13 (.idx 3 (.t 9) (.t 11)),
           .r 14 (.ldA 3 (.t 13)),
           .w 8 (.boxM (.c (.agg [.d (.str []), .d (.int .i64 0), .d (.int .i64 0)]))),
           .w 0 (.st 3 (.t 8) (.t 14))])
        (.seq (.reg [.r 15 (.fld 0 (.t 8)),
           .r 16 (.ld1 (.t 15)),
           .r 17 (.mv (.t 1)),
           .r 18 (.bin .eql (.t 16) (.t 17)),
           .r 19 (.mv (.t 18)),
           .g 19 true (some 20) (.r 20 (.fld 1 (.t 8))),
           .g 19 true (some 21) (.r 21 (.ld1 (.t 20))),
           .g 19 true (some 22) (.r 22 (.mv (.t 2))),
           .g 19 true (some 23) (.r 23 (.bin .leq (.t 21) (.t 22))),
           .r 24 (.pick (.t 19) (.t 23) (.c (.d (.bool false)))),
           .r 25 (.mv (.t 24)),
           .g 25 true (some 26) (.r 26 (.mv (.t 2))),
           .g 25 true (some 27) (.r 27 (.fld 2 (.t 8))),
           .g 25 true (some 28) (.r 28 (.ld1 (.t 27))),
           .g 25 true (some 29) (.r 29 (.bin .lss (.t 26) (.t 28))),
           .r 30 (.pick (.t 25) (.t 29) (.c (.d (.bool false))))])
        (.cond (.t 30)
          (.seq (.reg [.r 6 (.mv (.c (.d (.bool false))))])
          .ret)
          .skip))))
      (.reg [.r 31 (.bin .add (.t 11) (.c (.d (.int .i64 1)))),
         .r 11 (.mv (.t 31))])))))))
  (.seq (.reg [.r 6 (.mv (.c (.d (.bool true))))])
  .ret)))
theorem fit_interchangeref12_answers : fits Tryd.prog 34 Tryd.f34 sc_interchangeref12_answers [.t 6] 3 = true := by kernel_rfl

/-- slices.Index[[]int,int] -/
def sc_slices_Index_int_int : SC :=
  (.seq (.reg [.r 4 (.mv (.c (.d (.int .i64 0))))])
  (.seq (.seq (.reg [.r 6 (.mv (.t 0)),
     .r 7 (.len (.t 6)),
     .r 8 (.mv (.c (.d (.int .i64 0))))])
  (.block 0 (.loop (.seq (.reg [.r 9 (.bin .lss (.t 8) (.t 7))])
      (.seq (.cond (.t 9)
        .skip
        (.exit 0))
      (.seq (.block 1 (.seq (.reg [.r 10 (.mv (.t 8)),
           .r 5 (.mv (.t 10))])
        (.seq (.reg [.r 11 (.mv (.t 1)),
           .r 12 (.mv (.t 0)),
           .r 13 (.mv (.t 5)),
           .r 14 (.idx 1 (.t 12) (.t 13)),
           .r 15 (.ld1 (.t 14)),
           .r 16 (.bin .eql (.t 11) (.t 15))])
        (.cond (.t 16)
          (.seq (.reg [.r 17 (.mv (.t 5)),
             .r 4 (.mv (.t 17))])
          .ret)
          .skip))))
      (.reg [.r 18 (.bin .add (.t 8) (.c (.d (.int .i64 1)))),
         .r 8 (.mv (.t 18))])))))))
  (.seq (.reg [.r 4 (.mv (.c (.d (.int .i64 (-1)))))])
  .ret)))
theorem fit_slices_Index_int_int : fits Tryd.prog 35 Tryd.f35 sc_slices_Index_int_int [.t 4] 2 = true := by kernel_rfl

/-- interchange/desk.sending -/
def sc_desk_sending : SC :=
  (.seq (.reg [.w 8 (.boxM (.c (.agg [.d (.int .i64 0), .d (.int .i64 0), .d (.int .i64 0)]))),
     .r 9 (.mv (.c (.d (.bool false))))])
  (.seq (.reg [.r 12 (.build [.d (.int .i64 0), .d (.int .i64 0), .d (.int .i64 0)] [(1, 1, .c (.d (.int .i64 (-1)))), (2, 1, .c (.d (.int .i64 (-1))))]),
     .w 10 (.boxM (.c (.agg [.d (.int .i64 0), .d (.int .i64 0), .d (.int .i64 0)]))),
     .w 0 (.st 3 (.t 10) (.t 12))])
  (.seq (.reg [.r 11 (.mv (.c (.d (.int .i64 0))))])
  (.block 0 (.loop (.seq (.block 1 (.seq (.seq (.reg [.r 15 (.mv (.t 3)),
           .r 16 (.bin .gtr (.t 15) (.c (.d (.int .i64 2000000000000000))))])
        (.cond (.t 16)
          (.seq (.reg [.r 17 (.ldA 3 (.t 10)),
             .w 0 (.st 3 (.t 8) (.t 17)),
             .r 9 (.mv (.c (.d (.bool false))))])
          .ret)
          .skip))
        (.seq (.reg [.r 18 (.fld 0 (.t 10)),
           .r 19 (.ld1 (.t 18)),
           .r 20 (.bin .add (.t 19) (.c (.d (.int .i64 1)))),
           .r 21 (.fld 0 (.t 10)),
           .w 0 (.st 1 (.t 21) (.t 20))])
        (.seq (.seq (.reg [.r 22 (.mv (.t 1)),
           .r 23 (.mv (.t 2)),
           .r 24 (.mv (.t 3)),
           .c 25 (.f 41) [.t 22, .t 23, .t 24]])
        (.cond (.t 25)
          (.seq (.reg [.r 26 (.mv (.t 3)),
             .r 27 (.fld 1 (.t 10)),
             .w 0 (.st 1 (.t 27) (.t 26))])
          (.seq (.reg [.r 28 (.ldA 3 (.t 10)),
             .w 0 (.st 3 (.t 8) (.t 28)),
             .r 9 (.mv (.c (.d (.bool true))))])
          .ret))
          .skip))
        (.seq (.seq (.reg [.r 29 (.mv (.t 11)),
           .r 30 (.mv (.t 0)),
           .r 31 (.len (.t 30)),
           .r 32 (.bin .eql (.t 29) (.t 31))])
        (.cond (.t 32)
          (.seq (.reg [.r 33 (.mv (.t 3)),
             .r 34 (.fld 2 (.t 10)),
             .w 0 (.st 1 (.t 34) (.t 33))])
          (.seq (.reg [.r 35 (.ldA 3 (.t 10)),
             .w 0 (.st 3 (.t 8) (.t 35)),
             .r 9 (.mv (.c (.d (.bool true))))])
          .ret))
          .skip))
        (.reg [.r 36 (.mv (.t 3)),
           .r 37 (.mv (.t 0)),
           .r 38 (.mv (.t 11)),
           .r 39 (.idx 1 (.t 37) (.t 38)),
           .r 40 (.ld1 (.t 39)),
           .r 41 (.bin .add (.t 36) (.t 40)),
           .r 3 (.mv (.t 41))]))))))
      (.reg [.r 13 (.mv (.t 11)),
         .r 14 (.bin .add (.t 13) (.c (.d (.int .i64 1)))),
         .r 11 (.mv (.t 14))])))))))
theorem fit_desk_sending : fits Tryd.prog 36 Tryd.f36 sc_desk_sending [.cell 8 3, .t 9] 4 = true := by kernel_rfl

/-- interchange/interchangeref12.CheckPolicy -/
def sc_interchangeref12_CheckPolicy : SC :=
  (.seq (.reg [.r 1 (.boxI (.t 0)),
     .r 2 (.mv (.c (.d (.int .i64 0))))])
  (.seq (.seq (.reg [.r 3 (.fld 0 (.t 1)),
     .r 4 (.ld1 (.t 3)),
     .c 5 (.f 29) [.t 4, .c (.d (.int .i64 1)), .c (.d (.int .i64 1000000))],
     .r 6 (.not (.t 5)),
     .r 7 (.mv (.t 6)),
     .g 7 false (some 8) (.r 8 (.fld 1 (.t 1))),
     .g 7 false (some 9) (.r 9 (.ld1 (.t 8))),
     .g 7 false (some 10) (.c 10 (.f 29) [.t 9, .c (.d (.int .i64 1)), .c (.d (.int .i64 10))]),
     .g 7 false (some 11) (.r 11 (.not (.t 10))),
     .r 12 (.pick (.t 7) (.c (.d (.bool true))) (.t 11)),
     .r 13 (.mv (.t 12)),
     .g 13 false (some 14) (.r 14 (.fld 2 (.t 1))),
     .g 13 false (some 15) (.r 15 (.ld1 (.t 14))),
     .g 13 false (some 16) (.r 16 (.fld 0 (.t 1))),
     .g 13 false (some 17) (.r 17 (.ld1 (.t 16))),
     .g 13 false (some 18) (.c 18 (.f 29) [.t 15, .t 17, .c (.d (.int .i64 1000000))]),
     .g 13 false (some 19) (.r 19 (.not (.t 18))),
     .r 20 (.pick (.t 13) (.c (.d (.bool true))) (.t 19)),
     .r 21 (.mv (.t 20)),
     .g 21 false (some 22) (.r 22 (.fld 3 (.t 1))),
     .g 21 false (some 23) (.r 23 (.ld1 (.t 22))),
     .g 21 false (some 24) (.c 24 (.f 29) [.t 23, .c (.d (.int .i64 1)), .c (.d (.int .i64 20))]),
     .g 21 false (some 25) (.r 25 (.not (.t 24))),
     .r 26 (.pick (.t 21) (.c (.d (.bool true))) (.t 25))])
  (.cond (.t 26)
    (.seq (.reg [.r 2 (.mv (.c (.d (.int .i64 1))))])
    .ret)
    .skip))
  (.seq (.reg [.r 2 (.mv (.c (.d (.int .i64 0))))])
  .ret)))
theorem fit_interchangeref12_CheckPolicy : fits Tryd.prog 37 Tryd.f37 sc_interchangeref12_CheckPolicy [.t 2] 1 = true := by kernel_rfl

/-- interchange/interchangeref12.tries -/
def sc_interchangeref12_tries : SC :=
  (.seq (.reg [.r 4 (.boxI (.t 0)),
     .w 8 (.boxM (.c (.agg [.d (.int .i64 0), .d (.int .i64 0), .d (.int .i64 0)]))),
     .r 9 (.mv (.c (.d (.int .i64 0))))])
  (.seq (.reg [.r 12 (.ldA 5 (.t 4)),
     .c 13 (.f 42) [.t 12],
     .r 10 (.mv (.t 13))])
  (.seq (.reg [.r 11 (.mv (.c (.d (.int .i64 1))))])
  (.block 0 (.loop (.seq (.block 1 (.seq (.seq (.reg [.r 16 (.mv (.t 3)),
           .r 17 (.mv (.t 1)),
           .r 18 (.mv (.t 2)),
           .c 19 (.f 34) [.t 16, .t 17, .t 18]])
        (.cond (.t 19)
          (.seq (.reg [.r 20 (.mv (.t 11)),
             .r 21 (.mv (.t 2)),
             .r 22 (.build [.d (.int .i64 0), .d (.int .i64 0), .d (.int .i64 0)] [(0, 1, .t 20), (1, 1, .t 21), (2, 1, .c (.d (.int .i64 (-1))))]),
             .r 23 (.mv (.t 2)),
             .w 0 (.st 3 (.t 8) (.t 22)),
             .r 9 (.mv (.t 23))])
          .ret)
          .skip))
        (.seq (.seq (.reg [.r 24 (.mv (.t 11)),
           .r 25 (.mv (.t 10)),
           .r 26 (.len (.t 25)),
           .r 27 (.bin .gtr (.t 24) (.t 26))])
        (.cond (.t 27)
          (.seq (.reg [.r 28 (.mv (.t 11)),
             .r 29 (.mv (.t 2)),
             .r 30 (.build [.d (.int .i64 0), .d (.int .i64 0), .d (.int .i64 0)] [(0, 1, .t 28), (1, 1, .c (.d (.int .i64 (-1)))), (2, 1, .t 29)]),
             .r 31 (.mv (.t 2)),
             .w 0 (.st 3 (.t 8) (.t 30)),
             .r 9 (.mv (.t 31))])
          .ret)
          .skip))
        (.reg [.r 32 (.mv (.t 2)),
           .r 33 (.mv (.t 10)),
           .r 34 (.mv (.t 11)),
           .r 35 (.bin .sub (.t 34) (.c (.d (.int .i64 1)))),
           .r 36 (.idx 1 (.t 33) (.t 35)),
           .r 37 (.ld1 (.t 36)),
           .r 38 (.bin .add (.t 32) (.t 37)),
           .r 2 (.mv (.t 38))]))))
      (.reg [.r 14 (.mv (.t 11)),
         .r 15 (.bin .add (.t 14) (.c (.d (.int .i64 1)))),
         .r 11 (.mv (.t 15))])))))))
theorem fit_interchangeref12_tries : fits Tryd.prog 38 Tryd.f38 sc_interchangeref12_tries [.cell 8 3, .t 9] 4 = true := by kernel_rfl

/-- interchange/interchangeref1.isName -/
def sc_interchangeref1_isName : SC :=
  (.seq (.reg [.r 2 (.mv (.c (.d (.bool false))))])
  (.seq (.seq (.reg [.r 5 (.mv (.t 0)),
     .r 6 (.bin .eql (.t 5) (.c (.d (.str [])))),
     .r 7 (.mv (.t 6)),
     .g 7 false (some 8) (.r 8 (.mv (.t 0))),
     .g 7 false (some 9) (.r 9 (.lenT (.t 8))),
     .g 7 false (some 10) (.r 10 (.bin .gtr (.t 9) (.c (.d (.int .i64 40))))),
     .r 11 (.pick (.t 7) (.c (.d (.bool true))) (.t 10)),
     .r 12 (.mv (.t 11)),
     .g 12 false (some 13) (.r 13 (.mv (.t 0))),
     .g 12 false (some 14) (.r 14 (.sidx (.t 13) (.c (.d (.int .i64 0))))),
     .g 12 false (some 15) (.r 15 (.bin .lss (.t 14) (.c (.d (.int .u8 97))))),
     .r 16 (.pick (.t 12) (.c (.d (.bool true))) (.t 15)),
     .r 17 (.mv (.t 16)),
     .g 17 false (some 18) (.r 18 (.mv (.t 0))),
     .g 17 false (some 19) (.r 19 (.sidx (.t 18) (.c (.d (.int .i64 0))))),
     .g 17 false (some 20) (.r 20 (.bin .gtr (.t 19) (.c (.d (.int .u8 122))))),
     .r 21 (.pick (.t 17) (.c (.d (.bool true))) (.t 20))])
  (.cond (.t 21)
    (.seq (.reg [.r 2 (.mv (.c (.d (.bool false))))])
    .ret)
    .skip))
  (.seq (.seq (.reg [.r 22 (.mv (.t 0)),
     .r 23 (.lenT (.t 22)),
     .r 24 (.mv (.c (.d (.int .i64 0))))])
  (.block 0 (.loop (.seq (.reg [.r 25 (.bin .lss (.t 24) (.t 23))])
      (.seq (.cond (.t 25)
        .skip
        (.exit 0))
      (.seq (.block 1 (.seq (.reg [.r 26 (.mv (.t 24)),
           .r 3 (.mv (.t 26))])
        (.seq (.reg [.r 27 (.mv (.t 0)),
           .r 28 (.mv (.t 3)),
           .r 29 (.sidx (.t 27) (.t 28)),
           .r 4 (.mv (.t 29))])
        (.seq (.reg [.r 30 (.mv (.t 4)),
           .r 31 (.bin .lss (.t 30) (.c (.d (.int .u8 97)))),
           .r 32 (.mv (.t 31)),
           .g 32 false (some 33) (.r 33 (.mv (.t 4))),
           .g 32 false (some 34) (.r 34 (.bin .gtr (.t 33) (.c (.d (.int .u8 122))))),
           .r 35 (.pick (.t 32) (.c (.d (.bool true))) (.t 34)),
           .r 36 (.mv (.t 35)),
           .g 36 true (some 37) (.r 37 (.mv (.t 4))),
           .g 36 true (some 38) (.r 38 (.bin .lss (.t 37) (.c (.d (.int .u8 48))))),
           .g 36 true (some 39) (.r 39 (.mv (.t 38))),
           .g 39 false (some 40) (.r 40 (.mv (.t 4))),
           .g 39 false (some 41) (.r 41 (.bin .gtr (.t 40) (.c (.d (.int .u8 57))))),
           .g 36 true (some 42) (.r 42 (.pick (.t 39) (.c (.d (.bool true))) (.t 41))),
           .r 43 (.pick (.t 36) (.t 42) (.c (.d (.bool false)))),
           .r 44 (.mv (.t 43)),
           .g 44 true (some 45) (.r 45 (.mv (.t 4))),
           .g 44 true (some 46) (.r 46 (.bin .neq (.t 45) (.c (.d (.int .u8 45))))),
           .r 47 (.pick (.t 44) (.t 46) (.c (.d (.bool false))))])
        (.cond (.t 47)
          (.seq (.reg [.r 2 (.mv (.c (.d (.bool false))))])
          .ret)
          .skip)))))
      (.reg [.r 48 (.bin .add (.t 24) (.c (.d (.int .i64 1)))),
         .r 24 (.mv (.t 48))])))))))
  (.seq (.reg [.r 2 (.mv (.c (.d (.bool true))))])
  .ret))))
theorem fit_interchangeref1_isName : fits Tryd.prog 40 Tryd.f40 sc_interchangeref1_isName [.t 2] 1 = true := by kernel_rfl

/-- interchange/desk.answers -/
def sc_desk_answers : SC :=
  (.seq (.reg [.r 4 (.boxI (.t 1)),
     .r 5 (.boxI (.t 2)),
     .r 6 (.mv (.c (.d (.bool false))))])
  (.seq (.reg [.r 7 (.mv (.t 0)),
     .r 8 (.mkfn 51 [.t 4, .t 5]),
     .c 9 (.f 50) [.t 7, .t 8],
     .r 10 (.not (.t 9)),
     .r 6 (.mv (.t 10))])
  .ret))
theorem fit_desk_answers : fits Tryd.prog 41 Tryd.f41 sc_desk_answers [.t 6] 3 = true := by kernel_rfl

/-- interchange/interchangeref12.waits -/
def sc_interchangeref12_waits : SC :=
  (.seq (.reg [.r 1 (.boxI (.t 0)),
     .r 2 (.mv (.c (.nils)))])
  (.seq (.reg [.r 3 (.mv (.c (.nils)))])
  (.seq (.reg [.r 5 (.fld 0 (.t 1)),
     .r 6 (.ld1 (.t 5)),
     .r 4 (.mv (.t 6))])
  (.seq (.seq (.reg [.r 7 (.fld 3 (.t 1)),
     .r 8 (.ld1 (.t 7)),
     .r 9 (.bin .sub (.t 8) (.c (.d (.int .i64 1)))),
     .r 10 (.mv (.c (.d (.int .i64 0))))])
  (.block 0 (.gh (.vecnil 3 15 3 1) (.loop (.seq (.reg [.r 11 (.bin .lss (.t 10) (.t 9))])
      (.seq (.cond (.t 11)
        .skip
        (.exit 0))
      (.seq (.block 1 (.seq (.reg [.r 12 (.mv (.t 3)),
           .r 13 (.mv (.t 4)),
           .r 14 (.bslice 1 [.t 13]),
           .w 15 (.app 3 1 (.t 12) (.t 14)),
           .r 3 (.mv (.t 15))])
        (.reg [.r 16 (.fld 2 (.t 1)),
           .r 17 (.ld1 (.t 16)),
           .r 18 (.mv (.t 4)),
           .r 19 (.fld 1 (.t 1)),
           .r 20 (.ld1 (.t 19)),
           .r 21 (.bin .mul (.t 18) (.t 20)),
           .r 22 (.mins (.t 17) [.t 21]),
           .r 4 (.mv (.t 22))])))
      (.reg [.r 23 (.bin .add (.t 10) (.c (.d (.int .i64 1)))),
         .r 10 (.mv (.t 23))]))))))))
  (.seq (.reg [.r 24 (.mv (.t 3)),
     .r 2 (.mv (.t 24))])
  .ret)))))
theorem fit_interchangeref12_waits : fits Tryd.prog 42 Tryd.f42 sc_interchangeref12_waits [.t 2] 1 = true := by kernel_rfl

/-- slices.ContainsFunc[[]interchange/api.Outage,interchange/api.Outage] -/
def sc_slices_ContainsFunc_interchange_api_Outage_interchange_api_Outage : SC :=
  (.seq (.reg [.r 4 (.mv (.c (.d (.bool false))))])
  (.seq (.reg [.r 5 (.mv (.t 0)),
     .r 6 (.mv (.t 1)),
     .c 7 (.f 56) [.t 5, .t 6],
     .r 8 (.bin .geq (.t 7) (.c (.d (.int .i64 0)))),
     .r 4 (.mv (.t 8))])
  .ret))
theorem fit_slices_ContainsFunc_interchange_api_Outage_interchange_api_Outage : fits Tryd.prog 50 Tryd.f50 sc_slices_ContainsFunc_interchange_api_Outage_interchange_api_Outage [.t 4] 2 = true := by kernel_rfl

/-- interchange/desk.answers$1 -/
def sc_desk_answers_1 : SC :=
  (.seq (.reg [.r 3 (.boxI (.t 0)),
     .r 4 (.mv (.c (.d (.bool false))))])
  (.seq (.reg [.r 5 (.fld 0 (.t 3)),
     .r 6 (.ld1 (.t 5)),
     .r 7 (.ld1 (.t 1)),
     .r 8 (.bin .eql (.t 6) (.t 7)),
     .r 9 (.mv (.t 8)),
     .g 9 true (some 10) (.r 10 (.fld 1 (.t 3))),
     .g 9 true (some 11) (.r 11 (.ld1 (.t 10))),
     .g 9 true (some 12) (.r 12 (.ld1 (.t 2))),
     .g 9 true (some 13) (.r 13 (.bin .leq (.t 11) (.t 12))),
     .r 14 (.pick (.t 9) (.t 13) (.c (.d (.bool false)))),
     .r 15 (.mv (.t 14)),
     .g 15 true (some 16) (.r 16 (.ld1 (.t 2))),
     .g 15 true (some 17) (.r 17 (.fld 2 (.t 3))),
     .g 15 true (some 18) (.r 18 (.ld1 (.t 17))),
     .g 15 true (some 19) (.r 19 (.bin .lss (.t 16) (.t 18))),
     .r 20 (.pick (.t 15) (.t 19) (.c (.d (.bool false)))),
     .r 4 (.mv (.t 20))])
  .ret))
theorem fit_desk_answers_1 : fits Tryd.prog 51 Tryd.f51 sc_desk_answers_1 [.t 4] 3 = true := by kernel_rfl

/-- slices.IndexFunc[[]interchange/api.Outage,interchange/api.Outage] -/
def sc_slices_IndexFunc_interchange_api_Outage_interchange_api_Outage : SC :=
  (.seq (.reg [.r 4 (.mv (.c (.d (.int .i64 0))))])
  (.seq (.seq (.reg [.r 6 (.mv (.t 0)),
     .r 7 (.len (.t 6)),
     .r 8 (.mv (.c (.d (.int .i64 0))))])
  (.block 0 (.loop (.seq (.reg [.r 9 (.bin .lss (.t 8) (.t 7))])
      (.seq (.cond (.t 9)
        .skip
        (.exit 0))
      (.seq (.block 1 (.seq (.reg [.r 10 (.mv (.t 8)),
           .r 5 (.mv (.t 10))])
        (.seq (.reg [.r 11 (.mv (.t 1)),
           .r 12 (.mv (.t 0)),
           .r 13 (.mv (.t 5)),
           .r 14 (.idx 3 (.t 12) (.t 13)),
           .r 15 (.ldA 3 (.t 14)),
           .c 16 (.t 11) [.t 15]])
        (.cond (.t 16)
          (.seq (.reg [.r 17 (.mv (.t 5)),
             .r 4 (.mv (.t 17))])
          .ret)
          .skip))))
      (.reg [.r 18 (.bin .add (.t 8) (.c (.d (.int .i64 1)))),
         .r 8 (.mv (.t 18))])))))))
  (.seq (.reg [.r 4 (.mv (.c (.d (.int .i64 (-1)))))])
  .ret)))
theorem fit_slices_IndexFunc_interchange_api_Outage_interchange_api_Outage : fits Tryd.prog 56 Tryd.f56 sc_slices_IndexFunc_interchange_api_Outage_interchange_api_Outage [.t 4] 2 = true := by kernel_rfl

end Go.Proofs.YtjdeikkojjdjdaaDoor
