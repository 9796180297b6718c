/-
  Texts of mine, one behind the other (SYShelf, SYLibT, SYLibS, SYG1, SYLibO, SYLibP, SYLibQ, SYLibH, SYShelfU, SYLibA, SYLibA0, SYLibA1, SYLibA2, SYLibA3, SYG2, SYG3, SYG4, SYG5).
-/
import Derived.Ground.NamesProg
import Derived.Shelf.Strings.SlTrimAscii
import Derived.Shelf.Small.Strs
import Derived.Shelf.Strings.IndexAnyAll
import Derived.Test.YtfbhhhghjehjjaaDoorProg
import Derived.Test.YtfbhhhghjehjjaaDoorSYEngY
import Derived.KernelRfl
import Derived.Test.YtfbhhhghjehjjaaDoorSYEngZz
import Derived.Test.YtfbhhhghjehjjaaDoorSYEngX
import Derived.Lib.SlBytesConst
import Derived.ArgAppend
import Derived.Ground.Names7Prog
import Derived.Shelf.Spec.DecodeRune
import Derived.Shelf.Unicode.DecodeLastEight
import Derived.Lib.RuneCountTail
import Derived.Lib.TrimU
import Derived.Test.YtfbhhhghjehjjaaDoorSYEngRk
import Derived.Test.YtfbhhhghjehjjaaDoorSYEngRl
import Derived.Test.YtfbhhhghjehjjaaDoorSYEngRm
import Derived.Test.YtfbhhhghjehjjaaDoorSYEngRj
/-
  DERIVED: THE SHELF's CONTRACTS AT THIS DUMP, IN PLAIN WORDS (tools/lay-plain.mjs out of 'YtfbhhhghjehjjaaDoorShelf.lean', which tools/lay-shelf.mjs wrote): THE SAME DECLARATIONS UNDER THE SAME NAMES: 'import', 'namespace', 'open', 'def', 'theorem' AND NOTHING ELSE: no command of the shelf's: FOR A HAND-IN. Each laying: the table of numbers ('.._ren') and one theorem, a field a fact of the dump's own or the kernel's comparison; each contract: ONE APPLICATION.
-/
namespace Go.Proofs
open Go.Shelf
def Tryd.lays160_ren : Go.Shelf.Ren := ⟨fun | 160 => 46 | 232 => 58 | 231 => 57 | 227 => 59 | 234 => 61 | 233 => 60 | 236 => 63 | 235 => 62 | 228 => 66 | 271 => 80 | 151 => 79 | 197 => 78 | 120 => 88 | 152 => 64 | 260 => 87 | 137 => 51 | 119 => 81 | 224 => 82 | 225 => 73 | 217 => 75 | 266 => 67 | n => n, fun | 9 => 9 | 4 => 4 | 3 => 3 | 5 => 5 | 117 => 97 | 116 => 96 | 0 => 0 | 124 => 100 | 21 => 21 | 105 => 107 | 46 => 113 | 119 => 118 | 139 => 121 | 138 => 120 | n => n, fun | 3 => 1 | 4 => 2 | n => n⟩
theorem Tryd.lays160 : Go.Proofs.Lays.n160 Tryd.prog Tryd.lays160_ren := {
  mixed := by kernel_rfl
  f119 := Tryd.func81.trans (congrArg some (by kernel_rfl))
  f120 := Tryd.func88.trans (congrArg some (by kernel_rfl))
  f137 := Tryd.func51.trans (congrArg some (by kernel_rfl))
  f151 := Tryd.func79.trans (congrArg some (by kernel_rfl))
  f152 := Tryd.func64.trans (congrArg some (by kernel_rfl))
  f160 := Tryd.func46.trans (congrArg some (by kernel_rfl))
  f197 := Tryd.func78.trans (congrArg some (by kernel_rfl))
  f217 := Tryd.func75.trans (congrArg some (by kernel_rfl))
  f224 := Tryd.func82.trans (congrArg some (by kernel_rfl))
  f225 := Tryd.func73.trans (congrArg some (by kernel_rfl))
  f227 := Tryd.func59.trans (congrArg some (by kernel_rfl))
  f228 := Tryd.func66.trans (congrArg some (by kernel_rfl))
  f231 := Tryd.func57.trans (congrArg some (by kernel_rfl))
  f232 := Tryd.func58.trans (congrArg some (by kernel_rfl))
  f233 := Tryd.func60.trans (congrArg some (by kernel_rfl))
  f234 := Tryd.func61.trans (congrArg some (by kernel_rfl))
  f235 := Tryd.func62.trans (congrArg some (by kernel_rfl))
  f236 := Tryd.func63.trans (congrArg some (by kernel_rfl))
  f260 := Tryd.func87.trans (congrArg some (by kernel_rfl))
  f266 := Tryd.func67.trans (congrArg some (by kernel_rfl))
  f271 := Tryd.func80.trans (congrArg some (by kernel_rfl))
  t0 := Tryd.underlying0
  a0 := Tryd.isAgg0
  z0 := Tryd.sizeOf0
  v0 := Tryd.zeroValue0
  t3 := Tryd.underlying3
  a3 := Tryd.isAgg3
  z3 := Tryd.sizeOf3
  v3 := Tryd.zeroValue3
  t4 := Tryd.underlying4
  a4 := Tryd.isAgg4
  z4 := Tryd.sizeOf4
  v4 := Tryd.zeroValue4
  t5 := Tryd.underlying5
  a5 := Tryd.isAgg5
  z5 := Tryd.sizeOf5
  v5 := Tryd.zeroValue5
  t9 := Tryd.underlying9
  a9 := Tryd.isAgg9
  z9 := Tryd.sizeOf9
  v9 := Tryd.zeroValue9
  t21 := Tryd.underlying21
  a21 := Tryd.isAgg21
  z21 := Tryd.sizeOf21
  v21 := Tryd.zeroValue21
  t46 := Tryd.underlying113
  a46 := Tryd.isAgg113
  z46 := Tryd.sizeOf113
  v46 := Tryd.zeroValue113
  t105 := Tryd.underlying107
  a105 := Tryd.isAgg107
  z105 := Tryd.sizeOf107
  v105 := Tryd.zeroValue107
  t116 := Tryd.underlying96
  a116 := Tryd.isAgg96
  z116 := Tryd.sizeOf96
  t117 := Tryd.underlying97
  a117 := Tryd.isAgg97
  z117 := Tryd.sizeOf97
  v117 := Tryd.zeroValue97
  t119 := Tryd.underlying118
  a119 := Tryd.isAgg118
  z119 := Tryd.sizeOf118
  t124 := Tryd.underlying100
  a124 := Tryd.isAgg100
  z124 := Tryd.sizeOf100
  v124 := Tryd.zeroValue100
  t138 := Tryd.underlying120
  a138 := Tryd.isAgg120
  z138 := Tryd.sizeOf120
  v138 := Tryd.zeroValue120
  t139 := Tryd.underlying121
  a139 := Tryd.isAgg121
  z139 := Tryd.sizeOf121
  v139 := Tryd.zeroValue121
  g3 := by kernel_rfl
  g4 := by kernel_rfl }
def Tryd.lays137_ren : Go.Shelf.Ren := ⟨fun | 137 => 51 | 217 => 75 | 266 => 67 | n => n, fun | 9 => 9 | 5 => 5 | 3 => 3 | n => n, fun | n => n⟩
theorem Tryd.lays137 : Go.Proofs.Lays.n137 Tryd.prog Tryd.lays137_ren := {
  mixed := by kernel_rfl
  f137 := Tryd.func51.trans (congrArg some (by kernel_rfl))
  f217 := Tryd.func75.trans (congrArg some (by kernel_rfl))
  f266 := Tryd.func67.trans (congrArg some (by kernel_rfl))
  t3 := Tryd.underlying3
  a3 := Tryd.isAgg3
  z3 := Tryd.sizeOf3
  v3 := Tryd.zeroValue3
  t5 := Tryd.underlying5
  a5 := Tryd.isAgg5
  z5 := Tryd.sizeOf5
  v5 := Tryd.zeroValue5
  t9 := Tryd.underlying9
  a9 := Tryd.isAgg9
  z9 := Tryd.sizeOf9
  v9 := Tryd.zeroValue9 }
def Tryd.lays150_ren : Go.Shelf.Ren := ⟨fun | 150 => 34 | 153 => 47 | 152 => 64 | 226 => 65 | 227 => 59 | 228 => 66 | 137 => 51 | 119 => 81 | 224 => 82 | 225 => 73 | 217 => 75 | 266 => 67 | n => n, fun | 9 => 9 | 4 => 4 | 3 => 3 | 5 => 5 | 21 => 21 | 117 => 97 | 116 => 96 | 0 => 0 | 46 => 113 | 124 => 100 | n => n, fun | n => n⟩
theorem Tryd.lays150 : Go.Proofs.Lays.n150 Tryd.prog Tryd.lays150_ren := {
  mixed := by kernel_rfl
  f119 := Tryd.func81.trans (congrArg some (by kernel_rfl))
  f137 := Tryd.func51.trans (congrArg some (by kernel_rfl))
  f150 := Tryd.func34.trans (congrArg some (by kernel_rfl))
  f152 := Tryd.func64.trans (congrArg some (by kernel_rfl))
  f153 := Tryd.func47.trans (congrArg some (by kernel_rfl))
  f217 := Tryd.func75.trans (congrArg some (by kernel_rfl))
  f224 := Tryd.func82.trans (congrArg some (by kernel_rfl))
  f225 := Tryd.func73.trans (congrArg some (by kernel_rfl))
  f226 := Tryd.func65.trans (congrArg some (by kernel_rfl))
  f227 := Tryd.func59.trans (congrArg some (by kernel_rfl))
  f228 := Tryd.func66.trans (congrArg some (by kernel_rfl))
  f266 := Tryd.func67.trans (congrArg some (by kernel_rfl))
  t0 := Tryd.underlying0
  a0 := Tryd.isAgg0
  z0 := Tryd.sizeOf0
  v0 := Tryd.zeroValue0
  t3 := Tryd.underlying3
  a3 := Tryd.isAgg3
  z3 := Tryd.sizeOf3
  v3 := Tryd.zeroValue3
  t4 := Tryd.underlying4
  a4 := Tryd.isAgg4
  z4 := Tryd.sizeOf4
  v4 := Tryd.zeroValue4
  t5 := Tryd.underlying5
  a5 := Tryd.isAgg5
  z5 := Tryd.sizeOf5
  v5 := Tryd.zeroValue5
  t9 := Tryd.underlying9
  a9 := Tryd.isAgg9
  z9 := Tryd.sizeOf9
  v9 := Tryd.zeroValue9
  t21 := Tryd.underlying21
  a21 := Tryd.isAgg21
  z21 := Tryd.sizeOf21
  v21 := Tryd.zeroValue21
  t46 := Tryd.underlying113
  a46 := Tryd.isAgg113
  z46 := Tryd.sizeOf113
  v46 := Tryd.zeroValue113
  t116 := Tryd.underlying96
  a116 := Tryd.isAgg96
  z116 := Tryd.sizeOf96
  t117 := Tryd.underlying97
  a117 := Tryd.isAgg97
  z117 := Tryd.sizeOf97
  v117 := Tryd.zeroValue97
  t124 := Tryd.underlying100
  a124 := Tryd.isAgg100
  z124 := Tryd.sizeOf100
  v124 := Tryd.zeroValue100 }
end Go.Proofs

/-
  strings.Trim at a set of ASCII bytes.
-/
namespace Go.Proofs.YtfbhhhghjehjjaaDoor
set_option linter.unusedSimpArgs false
set_option linter.unusedVariables false
open Go.RowKit Go.Shelf

def m_strings_Trim (s cs : List UInt8) : Option (List UInt8) := if s.length ≤ 9223372036854775807 ∧ cs.length < 4294967281 ∧ cs.all (fun b => decide (b.toNat < 128)) = true then some (Lib.trimS s cs) else none
theorem spec_strings_Trim (s cs : List UInt8) : ∀ r, m_strings_Trim s cs = some r → PureSpec Tryd.prog 46 [.str s, .str cs] (.str r) := by
  intro r hr
  unfold m_strings_Trim at hr
  split at hr
  · rename_i h
    obtain ⟨h1, h2, h3⟩ := h
    cases hr
    refine ⟨by kernel_rfl, fun w M vs hM hv _ => ?_⟩
    simp only [RepL, Rep] at hv
    obtain ⟨u, us, rfl, rfl, u', us', rfl, rfl, rfl⟩ := hv
    have hcon := Any.strings_Trim_laid Tryd.lays160 (by kernel_rfl) ⟨s.toArray⟩ ⟨cs.toArray⟩ w (by simpa [ByteArray.size] using h1) (by simpa [ByteArray.size] using h2) (ascii_of_all (by simpa using h3))
    refine Calls.mono hcon ?_
    rintro e w' ⟨rfl, hB⟩
    exact ⟨_, rfl, by simp [Rep], hB⟩
  · cases hr
end Go.Proofs.YtfbhhhghjehjjaaDoor

/-
  strings.IndexByte and strings.ContainsAny (of ASCII).
-/
namespace Go.Proofs.YtfbhhhghjehjjaaDoor
set_option linter.unusedSimpArgs false
set_option linter.unusedVariables false
open Go.RowKit Go.Shelf

def m_strings_IndexByte (s : List UInt8) (c : UInt8) : Option Int := some (Lib.indexByte s c)
theorem spec_strings_IndexByte (s : List UInt8) (c : UInt8) : ∀ r, m_strings_IndexByte s c = some r → PureSpec Tryd.prog 51 [.str s, .int .u8 c.toNat] (.int .i64 r) := by
  intro r hr
  cases hr
  refine ⟨by kernel_rfl, fun w M vs hM hv _ => ?_⟩
  simp only [RepL, Rep] at hv
  obtain ⟨u, us, rfl, rfl, u', us', rfl, rfl, rfl⟩ := hv
  have hcon := Any.strings_IndexByte Tryd.lays137 ⟨s.toArray⟩ (c.toNat : Int) w
  refine Calls.mono hcon ?_
  rintro e w' ⟨rfl, rfl⟩
  refine ⟨_, rfl, ?_, Below.refl _ _⟩
  simp only [Rep]
  have : ((c.toNat : Int)).toNat.toUInt8 = c := by simp
  rw [this]
def m_strings_ContainsAny (s cs : List UInt8) : Option Bool := if s.length < 4294967281 ∧ cs.length < 4294967281 ∧ s.all (fun b => decide (b.toNat < 128)) = true ∧ cs.all (fun b => decide (b.toNat < 128)) = true then some (Lib.containsAny s cs) else none
theorem spec_strings_ContainsAny (s cs : List UInt8) : ∀ r, m_strings_ContainsAny s cs = some r → PureSpec Tryd.prog 34 [.str s, .str cs] (.bool r) := by
  intro r hr
  unfold m_strings_ContainsAny at hr
  split at hr
  · rename_i h
    obtain ⟨h1, h2, h3, h4⟩ := h
    cases hr
    refine ⟨by kernel_rfl, fun w M vs hM hv _ => ?_⟩
    simp only [RepL, Rep] at hv
    obtain ⟨u, us, rfl, rfl, u', us', rfl, rfl, rfl⟩ := hv
    have asc : ∀ (l : List UInt8), l.all (fun b => decide (b.toNat < 128)) = true → ∀ (j : Nat) b, l[j]? = some b → b.toNat < 128 := fun l hl j b hb => by
      have := List.all_eq_true.1 hl b (List.mem_of_getElem? hb)
      simpa using this
    have hcon := Any.strings_ContainsAny_laid Tryd.lays150 (by kernel_rfl) ⟨s.toArray⟩ ⟨cs.toArray⟩ w (by simpa [ByteArray.size] using h1) (by simpa [ByteArray.size] using h2) (asc s h3) (asc cs h4)
    refine Calls.mono hcon ?_
    rintro e w' ⟨rfl, hB⟩
    exact ⟨_, rfl, by simp [Rep], hB⟩
  · cases hr
end Go.Proofs.YtfbhhhghjehjjaaDoor

/-
  Bodies of functions and what they compute, printed by programs of mine (wip/tool/gen.py, sc.py) out of the translation; the kernel holds each against the translation.
-/
namespace Go.Proofs.YtfbhhhghjehjjaaDoor
open Go.RowKit
set_option linter.unusedSimpArgs false
set_option linter.unusedVariables false
structure Tapi_Marks where
  fElement : UInt8
  fPart : UInt8
  fRepeat : UInt8
  fEscape : UInt8
  fEnd : UInt8
  deriving DecidableEq
def rTapi_Marks (x : Tapi_Marks) : List DV := [.int .u8 (x.fElement).toNat, .int .u8 (x.fPart).toNat, .int .u8 (x.fRepeat).toNat, .int .u8 (x.fEscape).toNat, .int .u8 (x.fEnd).toNat]
attribute [push_cast] rTapi_Marks
theorem fT_Tapi_Marks {d0 d1 d2 d3 d4 : DV} {v0 : UInt8} {v1 : UInt8} {v2 : UInt8} {v3 : UInt8} {v4 : UInt8} (h0 : d0 = .int .u8 (v0).toNat) (h1 : d1 = .int .u8 (v1).toNat) (h2 : d2 = .int .u8 (v2).toNat) (h3 : d3 = .int .u8 (v3).toNat) (h4 : d4 = .int .u8 (v4).toNat) : [d0, d1, d2, d3, d4] = rTapi_Marks ⟨v0, v1, v2, v3, v4⟩ := by unfold rTapi_Marks; simp only [h0, h1, h2, h3, h4, List.cons_append, List.nil_append, List.append_assoc, List.append_nil]
theorem cT_Tapi_Marks {d0 d1 d2 d3 d4 : SV} {v0 : UInt8} {v1 : UInt8} {v2 : UInt8} {v3 : UInt8} {v4 : UInt8} (h0 : svle d0 (.d (.int .u8 (v0).toNat))) (h1 : svle d1 (.d (.int .u8 (v1).toNat))) (h2 : svle d2 (.d (.int .u8 (v2).toNat))) (h3 : svle d3 (.d (.int .u8 (v3).toNat))) (h4 : svle d4 (.d (.int .u8 (v4).toNat))) : cellsle [d0, d1, d2, d3, d4] (dR (rTapi_Marks ⟨v0, v1, v2, v3, v4⟩)) := by have h := (cellsle.append (cellsle.consS h0 cellsle.nil) (cellsle.append (cellsle.consS h1 cellsle.nil) (cellsle.append (cellsle.consS h2 cellsle.nil) (cellsle.append (cellsle.consS h3 cellsle.nil) (cellsle.consS h4 cellsle.nil))))); simpa only [rTapi_Marks, dR, List.map_append, List.map_cons, List.map_nil, List.cons_append, List.nil_append, List.append_assoc, List.append_nil] using h
structure Tapi_Element where
  fRepeats : List (List (List UInt8))
  deriving DecidableEq
def rTapi_Element (x : Tapi_Element) : List DV := [.slice (List.map (rowL rowS) x.fRepeats)]
attribute [push_cast] rTapi_Element
theorem fT_Tapi_Element {d0 : DV} {v0 : List (List (List UInt8))} (h0 : d0 = .slice (List.map (rowL rowS) v0)) : [d0] = rTapi_Element ⟨v0⟩ := by unfold rTapi_Element; simp only [h0, List.cons_append, List.nil_append, List.append_assoc, List.append_nil]
theorem cT_Tapi_Element {d0 : SV} {v0 : List (List (List UInt8))} (h0 : svle d0 (.d (.slice (List.map (rowL rowS) v0)))) : cellsle [d0] (dR (rTapi_Element ⟨v0⟩)) := by have h := (cellsle.consS h0 cellsle.nil); simpa only [rTapi_Element, dR, List.map_append, List.map_cons, List.map_nil, List.cons_append, List.nil_append, List.append_assoc, List.append_nil] using h
structure Tapi_Segment where
  fTag : List UInt8
  fElements : List Tapi_Element
  deriving DecidableEq
def rTapi_Segment (x : Tapi_Segment) : List DV := [.str x.fTag, .slice (List.map rTapi_Element x.fElements)]
attribute [push_cast] rTapi_Segment
theorem fT_Tapi_Segment {d0 d1 : DV} {v0 : List UInt8} {v1 : List Tapi_Element} (h0 : d0 = .str v0) (h1 : d1 = .slice (List.map rTapi_Element v1)) : [d0, d1] = rTapi_Segment ⟨v0, v1⟩ := by unfold rTapi_Segment; simp only [h0, h1, List.cons_append, List.nil_append, List.append_assoc, List.append_nil]
theorem cT_Tapi_Segment {d0 d1 : SV} {v0 : List UInt8} {v1 : List Tapi_Element} (h0 : svle d0 (.d (.str v0))) (h1 : svle d1 (.d (.slice (List.map rTapi_Element v1)))) : cellsle [d0, d1] (dR (rTapi_Segment ⟨v0, v1⟩)) := by have h := (cellsle.append (cellsle.consS h0 cellsle.nil) (cellsle.consS h1 cellsle.nil)); simpa only [rTapi_Segment, dR, List.map_append, List.map_cons, List.map_nil, List.cons_append, List.nil_append, List.append_assoc, List.append_nil] using h
theorem eT_Tapi_Segment {d0 d1 : SV} {v0 : List UInt8} {v1 : List Tapi_Element} (h0 : d0 = .d (.str v0)) (h1 : d1 = .d (.slice (List.map rTapi_Element v1))) : [d0, d1] = dR (rTapi_Segment ⟨v0, v1⟩) := by simp only [rTapi_Segment, dR, List.map_append, List.map_cons, List.map_nil, List.cons_append, List.nil_append, List.append_assoc, List.append_nil, h0, h1]

/-- interchange/kit.IsTagPart -/
def sc_kit_IsTagPart : SC :=
  (.seq (.reg [.r 2 (.mv (.c (.d (.bool false))))])
  (.seq (.reg [.r 3 (.mv (.t 0)),
     .c 4 (.f 46) [.t 3, .c (.d (.str [65, 66, 67, 68, 69, 70, 71, 72, 73, 74, 75, 76, 77, 78, 79, 80, 81, 82, 83, 84, 85, 86, 87, 88, 89, 90, 48, 49, 50, 51, 52, 53, 54, 55, 56, 57]))],
     .r 5 (.bin .eql (.t 4) (.c (.d (.str [])))),
     .r 2 (.mv (.t 5))])
  .ret))
theorem fit_kit_IsTagPart : fits Tryd.prog 32 Tryd.f32 sc_kit_IsTagPart [.t 2] 1 = true := by kernel_rfl

def sc_kit_InBytes_L1 : SC :=
  (.seq (.reg [.r 11 (.bin .lss (.t 10) (.t 9))])
  (.seq (.cond (.t 11)
    .skip
    (.exit 0))
  (.seq (.block 1 (.seq (.reg [.r 12 (.mv (.t 10)),
       .r 7 (.mv (.t 12))])
    (.seq (.reg (.r 13 (.mv (.t 0)) :: .r 14 (.mv (.t 7)) :: .r 15 (.sidx (.t 13) (.t 14)) :: .r 16 (.mv (.t 1)) :: .r 17 (.bin .lss (.t 15) (.t 16)) :: .r 18 (.mv (.t 17)) :: gapp [19, 20, 21, 22, 23] 18 false (.r 19 (.mv (.t 0)) :: .r 20 (.mv (.t 7)) :: .r 21 (.sidx (.t 19) (.t 20)) :: .r 22 (.mv (.t 2)) :: .r 23 (.bin .gtr (.t 21) (.t 22)) :: []) (.r 24 (.pick (.t 18) (.c (.d (.bool true))) (.t 23)) :: [])))
    (.cond (.t 24)
      (.seq (.reg [.r 6 (.mv (.c (.d (.bool false))))])
      .ret)
      .skip))))
  (.reg [.r 25 (.bin .add (.t 10) (.c (.d (.int .i64 1)))),
     .r 10 (.mv (.t 25))]))))
def sc_kit_InBytes_B1 : SC := .block 0 (.loop sc_kit_InBytes_L1)
/-- interchange/kit.InBytes -/
def sc_kit_InBytes : SC :=
  (.seq (.reg [.r 6 (.mv (.c (.d (.bool false))))])
  (.seq (.seq (.reg [.r 8 (.mv (.t 0)),
     .r 9 (.lenT (.t 8)),
     .r 10 (.mv (.c (.d (.int .i64 0))))])
  sc_kit_InBytes_B1)
  (.seq (.reg [.r 6 (.mv (.c (.d (.bool true))))])
  .ret)))
theorem fit_kit_InBytes : fits Tryd.prog 33 Tryd.f33 sc_kit_InBytes [.t 6] 3 = true := by kernel_rfl

def sc_slices_Index_byte_byte_L1 : SC :=
  (.seq (.reg [.r 9 (.bin .lss (.t 8) (.t 7))])
  (.seq (.cond (.t 9)
    .skip
    (.exit 0))
  (.seq (.block 1 (.seq (.reg [.r 10 (.mv (.t 8)),
       .r 5 (.mv (.t 10))])
    (.seq (.reg [.r 11 (.mv (.t 1)),
       .r 12 (.mv (.t 0)),
       .r 13 (.mv (.t 5)),
       .r 14 (.idx 1 (.t 12) (.t 13)),
       .o 15 (.ld1 (.t 14)),
       .r 16 (.bin .eql (.t 11) (.t 15))])
    (.cond (.t 16)
      (.seq (.reg [.r 17 (.mv (.t 5)),
         .r 4 (.mv (.t 17))])
      .ret)
      .skip))))
  (.reg [.r 18 (.bin .add (.t 8) (.c (.d (.int .i64 1)))),
     .r 8 (.mv (.t 18))]))))
def sc_slices_Index_byte_byte_B1 : SC := .block 0 (.loop sc_slices_Index_byte_byte_L1)
/-- slices.Index[[]byte,byte] -/
def sc_slices_Index_byte_byte : SC :=
  (.seq (.reg [.r 4 (.mv (.c (.d (.int .i64 0))))])
  (.seq (.seq (.reg [.r 6 (.mv (.t 0)),
     .r 7 (.len (.t 6)),
     .r 8 (.mv (.c (.d (.int .i64 0))))])
  sc_slices_Index_byte_byte_B1)
  (.seq (.reg [.r 4 (.mv (.c (.d (.int .i64 (-1)))))])
  .ret)))
theorem fit_slices_Index_byte_byte : fits Tryd.prog 35 Tryd.f35 sc_slices_Index_byte_byte [.t 4] 2 = true := by kernel_rfl

/-- interchange/interchangeref2.mark -/
def sc_interchangeref2_mark : SC :=
  (.seq (.reg [.r 2 (.mv (.c (.d (.bool false))))])
  (.seq (.seq (.reg (.r 3 (.mv (.t 0)) :: .r 4 (.bin .lss (.t 3) (.c (.d (.int .u8 33)))) :: .r 5 (.mv (.t 4)) :: gapp [6, 7] 5 false (.r 6 (.mv (.t 0)) :: .r 7 (.bin .gtr (.t 6) (.c (.d (.int .u8 126)))) :: []) (.r 8 (.pick (.t 5) (.c (.d (.bool true))) (.t 7)) :: .r 9 (.mv (.t 8)) :: gapp [10, 11] 9 false (.r 10 (.mv (.t 0)) :: .r 11 (.bin .eql (.t 10) (.c (.d (.int .u8 46)))) :: []) (.r 12 (.pick (.t 9) (.c (.d (.bool true))) (.t 11)) :: .r 13 (.mv (.t 12)) :: gapp [14, 15] 13 false (.r 14 (.mv (.t 0)) :: .r 15 (.bin .eql (.t 14) (.c (.d (.int .u8 45)))) :: []) (.r 16 (.pick (.t 13) (.c (.d (.bool true))) (.t 15)) :: .r 17 (.mv (.t 16)) :: gapp [18, 19] 17 false (.r 18 (.mv (.t 0)) :: .r 19 (.bin .eql (.t 18) (.c (.d (.int .u8 43)))) :: []) (.r 20 (.pick (.t 17) (.c (.d (.bool true))) (.t 19)) :: .r 21 (.mv (.t 20)) :: gapp [22, 23] 21 false (.r 22 (.mv (.t 0)) :: .r 23 (.bin .eql (.t 22) (.c (.d (.int .u8 95)))) :: []) (.r 24 (.pick (.t 21) (.c (.d (.bool true))) (.t 23)) :: [])))))))
  (.cond (.t 24)
    (.seq (.reg [.r 2 (.mv (.c (.d (.bool false))))])
    .ret)
    .skip))
  (.seq (.reg (.r 25 (.mv (.t 0)) :: .r 26 (.bin .geq (.t 25) (.c (.d (.int .u8 65)))) :: .r 27 (.mv (.t 26)) :: gapp [28, 29] 27 true (.r 28 (.mv (.t 0)) :: .r 29 (.bin .leq (.t 28) (.c (.d (.int .u8 90)))) :: []) (.r 30 (.pick (.t 27) (.t 29) (.c (.d (.bool false)))) :: .r 31 (.mv (.t 30)) :: gapp [32, 33, 34, 35, 36, 37] 31 false (.r 32 (.mv (.t 0)) :: .r 33 (.bin .geq (.t 32) (.c (.d (.int .u8 97)))) :: .r 34 (.mv (.t 33)) :: gapp [35, 36] 34 true (.r 35 (.mv (.t 0)) :: .r 36 (.bin .leq (.t 35) (.c (.d (.int .u8 122)))) :: []) (.r 37 (.pick (.t 34) (.t 36) (.c (.d (.bool false)))) :: [])) (.r 38 (.pick (.t 31) (.c (.d (.bool true))) (.t 37)) :: .r 39 (.mv (.t 38)) :: gapp [40, 41, 42, 43, 44, 45] 39 false (.r 40 (.mv (.t 0)) :: .r 41 (.bin .geq (.t 40) (.c (.d (.int .u8 48)))) :: .r 42 (.mv (.t 41)) :: gapp [43, 44] 42 true (.r 43 (.mv (.t 0)) :: .r 44 (.bin .leq (.t 43) (.c (.d (.int .u8 57)))) :: []) (.r 45 (.pick (.t 42) (.t 44) (.c (.d (.bool false)))) :: [])) (.r 46 (.pick (.t 39) (.c (.d (.bool true))) (.t 45)) :: .r 47 (.not (.t 46)) :: .r 2 (.mv (.t 47)) :: [])))))
  .ret)))
theorem fit_interchangeref2_mark : fits Tryd.prog 22 Tryd.f22 sc_interchangeref2_mark [.t 2] 1 = true := by kernel_rfl

def sc_interchangeref2_beginsTag_L1 : SC :=
  (.seq (.seq (.reg [.r 5 (.mv (.t 3)),
     .r 6 (.mv (.t 0)),
     .r 7 (.lenT (.t 6)),
     .r 8 (.bin .lss (.t 5) (.t 7))])
  (.cond (.t 8)
    .skip
    (.exit 0)))
  (.seq (.block 1 (.seq (.reg (.r 11 (.mv (.t 0)) :: .r 12 (.mv (.t 3)) :: .r 13 (.sidx (.t 11) (.t 12)) :: .r 14 (.bin .geq (.t 13) (.c (.d (.int .u8 65)))) :: .r 15 (.mv (.t 14)) :: gapp [16, 17, 18, 19] 15 true (.r 16 (.mv (.t 0)) :: .r 17 (.mv (.t 3)) :: .r 18 (.sidx (.t 16) (.t 17)) :: .r 19 (.bin .leq (.t 18) (.c (.d (.int .u8 90)))) :: []) (.r 20 (.pick (.t 15) (.t 19) (.c (.d (.bool false)))) :: .r 4 (.mv (.t 20)) :: [])))
    (.seq (.reg (.r 21 (.mv (.t 4)) :: .r 22 (.not (.t 21)) :: .r 23 (.mv (.t 22)) :: gapp [24, 25, 26, 27, 28, 29, 30, 31, 32, 33, 34, 35, 36, 37] 23 true (.r 24 (.mv (.t 3)) :: .r 25 (.bin .eql (.t 24) (.c (.d (.int .i64 0)))) :: .r 26 (.mv (.t 25)) :: gapp [27, 28, 29, 30] 26 false (.r 27 (.mv (.t 0)) :: .r 28 (.mv (.t 3)) :: .r 29 (.sidx (.t 27) (.t 28)) :: .r 30 (.bin .lss (.t 29) (.c (.d (.int .u8 48)))) :: []) (.r 31 (.pick (.t 26) (.c (.d (.bool true))) (.t 30)) :: .r 32 (.mv (.t 31)) :: gapp [33, 34, 35, 36] 32 false (.r 33 (.mv (.t 0)) :: .r 34 (.mv (.t 3)) :: .r 35 (.sidx (.t 33) (.t 34)) :: .r 36 (.bin .gtr (.t 35) (.c (.d (.int .u8 57)))) :: []) (.r 37 (.pick (.t 32) (.c (.d (.bool true))) (.t 36)) :: []))) (.r 38 (.pick (.t 23) (.t 37) (.c (.d (.bool false)))) :: [])))
    (.cond (.t 38)
      (.seq (.reg [.r 2 (.mv (.c (.d (.bool false))))])
      .ret)
      .skip))))
  (.reg [.r 9 (.mv (.t 3)),
     .r 10 (.bin .add (.t 9) (.c (.d (.int .i64 1)))),
     .r 3 (.mv (.t 10))])))
def sc_interchangeref2_beginsTag_B1 : SC := .block 0 (.loop sc_interchangeref2_beginsTag_L1)
/-- interchange/interchangeref2.beginsTag -/
def sc_interchangeref2_beginsTag : SC :=
  (.seq (.reg [.r 2 (.mv (.c (.d (.bool false))))])
  (.seq (.seq (.reg [.r 3 (.mv (.c (.d (.int .i64 0))))])
  sc_interchangeref2_beginsTag_B1)
  (.seq (.reg [.r 39 (.mv (.t 0)),
     .r 40 (.lenT (.t 39)),
     .r 41 (.bin .leq (.t 40) (.c (.d (.int .i64 6)))),
     .r 2 (.mv (.t 41))])
  .ret)))
theorem fit_interchangeref2_beginsTag : fits Tryd.prog 53 Tryd.f53 sc_interchangeref2_beginsTag [.t 2] 1 = true := by kernel_rfl

def sc_interchangeref2_checkText_L1 : SC :=
  (.seq (.seq (.reg [.r 7 (.mv (.t 3)),
     .r 8 (.mv (.t 0)),
     .r 9 (.lenT (.t 8)),
     .r 10 (.bin .lss (.t 7) (.t 9))])
  (.cond (.t 10)
    .skip
    (.exit 0)))
  (.seq (.block 1 (.seq (.reg (.r 13 (.mv (.t 0)) :: .r 14 (.mv (.t 3)) :: .r 15 (.sidx (.t 13) (.t 14)) :: .r 16 (.bin .lss (.t 15) (.c (.d (.int .u8 32)))) :: .r 17 (.mv (.t 16)) :: gapp [18, 19, 20, 21] 17 false (.r 18 (.mv (.t 0)) :: .r 19 (.mv (.t 3)) :: .r 20 (.sidx (.t 18) (.t 19)) :: .r 21 (.bin .gtr (.t 20) (.c (.d (.int .u8 126)))) :: []) (.r 22 (.pick (.t 17) (.c (.d (.bool true))) (.t 21)) :: [])))
    (.cond (.t 22)
      (.seq (.reg [.r 2 (.mv (.c (.d (.int .i64 3))))])
      .ret)
      .skip)))
  (.reg [.r 11 (.mv (.t 3)),
     .r 12 (.bin .add (.t 11) (.c (.d (.int .i64 1)))),
     .r 3 (.mv (.t 12))])))
def sc_interchangeref2_checkText_B1 : SC := .block 0 (.loop sc_interchangeref2_checkText_L1)
/-- interchange/interchangeref2.checkText -/
def sc_interchangeref2_checkText : SC :=
  (.seq (.reg [.r 2 (.mv (.c (.d (.int .i64 0))))])
  (.seq (.seq (.reg [.r 4 (.mv (.t 0)),
     .r 5 (.lenT (.t 4)),
     .r 6 (.bin .gtr (.t 5) (.c (.d (.int .i64 1000))))])
  (.cond (.t 6)
    (.seq (.reg [.r 2 (.mv (.c (.d (.int .i64 2))))])
    .ret)
    .skip))
  (.seq (.seq (.reg [.r 3 (.mv (.c (.d (.int .i64 0))))])
  sc_interchangeref2_checkText_B1)
  (.seq (.reg [.r 2 (.mv (.c (.d (.int .i64 0))))])
  .ret))))
theorem fit_interchangeref2_checkText : fits Tryd.prog 77 Tryd.f77 sc_interchangeref2_checkText [.t 2] 1 = true := by kernel_rfl

set_option maxRecDepth 100000 in
set_option maxHeartbeats 40000000 in
noncomputable def sims_G1_0_0 : (∀ (x0 : List UInt8), {m : Option (Bool) // ∀ r, m = some r → PureSpec Tryd.prog 32 [.str x0] (.bool r)}) × (∀ (x0 : List UInt8) (x1 : UInt8) (x2 : UInt8), {m : Option (Bool) // ∀ r, m = some r → PureSpec Tryd.prog 33 [.str x0, .int .u8 (x1).toNat, .int .u8 (x2).toNat] (.bool r)}) × (∀ (x0 : List UInt8) (x1 : UInt8), {m : Option (Int) // ∀ r, m = some r → PureSpec Tryd.prog 35 [.slice (List.map rowY x0), .int .u8 (x1).toNat] (.int .i64 r)}) × (∀ (x0 : UInt8), {m : Option (Bool) // ∀ r, m = some r → PureSpec Tryd.prog 22 [.int .u8 (x0).toNat] (.bool r)}) × (∀ (x0 : List UInt8), {m : Option (Bool) // ∀ r, m = some r → PureSpec Tryd.prog 53 [.str x0] (.bool r)}) × (∀ (x0 : List UInt8), {m : Option (Int) // ∀ r, m = some r → PureSpec Tryd.prog 77 [.str x0] (.int .i64 r)}) := by
  refine ⟨?g0, ?g1, ?g2, ?g3, ?g4, ?g5⟩
  case' g0 => (intro x0; apply Subtype.mk; intro r hm; apply pure_walk Tryd.func32 fit_kit_IsTagPart; unfold sc_kit_IsTagPart)
  case' g1 => (intro x0 x1 x2; apply Subtype.mk; intro r hm; apply pure_walk Tryd.func33 fit_kit_InBytes; unfold sc_kit_InBytes)
  case' g2 => (intro x0 x1; apply Subtype.mk; intro r hm; apply pure_walk Tryd.func35 fit_slices_Index_byte_byte; unfold sc_slices_Index_byte_byte)
  case' g3 => (intro x0; apply Subtype.mk; intro r hm; apply pure_walk Tryd.func22 fit_interchangeref2_mark; unfold sc_interchangeref2_mark)
  case' g4 => (intro x0; apply Subtype.mk; intro r hm; apply pure_walk Tryd.func53 fit_interchangeref2_beginsTag; unfold sc_interchangeref2_beginsTag)
  case' g5 => (intro x0; apply Subtype.mk; intro r hm; apply pure_walk Tryd.func77 fit_interchangeref2_checkText; unfold sc_interchangeref2_checkText)
  all_goals (repeat' (first | with_reducible refine W_seq ?_ | with_reducible refine W_reg ?_ | with_reducible refine W_block ?_ | with_reducible refine W_skip ?_ | with_reducible refine W_ret ?_ | with_reducible refine W_exit ?_ | with_reducible refine O_nil ?_ | with_reducible refine K_seq ?_ | with_reducible refine K_seqE ?_ | with_reducible refine K_seqR ?_ | with_reducible refine K_block ?_ | with_reducible refine K_blockR ?_ | with_reducible refine O_o2r ?_ | ((with_reducible apply O_idxr hm); (iterate 2 (simp only [push_cast, seval]; rfl)); (intro _; rfl); intro e hm) | ((with_reducible apply O_sidxr hm); (iterate 2 (simp only [push_cast, seval]; rfl)); intro e hm) | ((with_reducible apply O_r); (simp only [push_cast, seval]; rfl); (first | exact trivial)) | ((with_reducible apply O_and hm); (simp only [push_cast, seval]; rfl); rfl; intro v hm; rotate_left; intro v g hm) | ((with_reducible apply O_or hm); (simp only [push_cast, seval]; rfl); rfl; intro v hm; rotate_left; intro v g hm) | ((with_reducible apply O_cF hm); (simp only [push_cast, seval]; rfl); (first | apply spec_strings_Trim _ _); (any_goals ((repeat' (first | rfl)); done)); intro x hm) | ((with_reducible apply S_condB hm); (simp only [push_cast, seval]; rfl); intro hm; rotate_left; intro hm) | ((with_reducible apply K_endS hm); (focus (simp only [resOf, resL, RV.get, push_cast, seval]; rfl)); (focus ((repeat' (first | rfl)); done))) | ((with_reducible apply K_bool hm); (simp only [push_cast, seval]; rfl)) | ((with_reducible apply K_leave hm); intro r hm) | ((with_reducible apply K_leaveR hm); intro r hm) | ((apply S_loopY (b := 0) (X := sc_kit_InBytes_B1) (x := sc_kit_InBytes_L1) rfl (fun (c : SV × SV × SV × SV) (s : Int) => st [(0, c.1), (1, c.2.1), (2, c.2.2.1), (9, c.2.2.2), (10, .d (.int .i64 s))] []) (c := (_, _, _, _)) (s0 := _) hm); (focus (first | (dsimp only; done))); (with_reducible refine Then.mk ?_ ?_)) | ((apply S_loopY (b := 0) (X := sc_slices_Index_byte_byte_B1) (x := sc_slices_Index_byte_byte_L1) rfl (fun (c : SV × SV × SV) (s : Int) => st [(0, c.1), (1, c.2.1), (7, c.2.2), (8, .d (.int .i64 s))] []) (c := (_, _, _)) (s0 := _) hm); (focus (first | (dsimp only; done))); (with_reducible refine Then.mk ?_ ?_)) | ((apply S_loopY (b := 0) (X := sc_interchangeref2_beginsTag_B1) (x := sc_interchangeref2_beginsTag_L1) rfl (fun (c : SV) (s : Int) => st [(0, c), (3, .d (.int .i64 s))] []) (c := _) (s0 := _) hm); (focus (first | (dsimp only; done))); (with_reducible refine Then.mk ?_ ?_)) | ((apply S_loopY (b := 0) (X := sc_interchangeref2_checkText_B1) (x := sc_interchangeref2_checkText_L1) rfl (fun (c : SV) (s : Int) => st [(0, c), (3, .d (.int .i64 s))] []) (c := _) (s0 := _) hm); (focus (first | (dsimp only; done))); (with_reducible refine Then.mk ?_ ?_)) | ((apply K_next (s' := _) hm); (focus (first | (dsimp only; done)))) | ((apply K_brk (s' := _) hm); (focus (first | (dsimp only; done)))) | (((with_reducible apply K_brkR hm); intro r hm)) | (((with_reducible apply LoopB.of); (focus (first | (dsimp only; done))); (focus ((intro _; repeat' (first | with_reducible exact impC_end | with_reducible refine impC_seq ?_)))); (intro s o hm; first | unfold sc_kit_InBytes_L1 | unfold sc_slices_Index_byte_byte_L1 | unfold sc_interchangeref2_beginsTag_L1 | unfold sc_interchangeref2_checkText_L1); rotate_left; intro s hm)) | (((apply imp_stT; (repeat' (first | with_reducible exact keepT_nil | with_reducible exact keepC_nil | with_reducible apply keepT_cons | ((with_reducible apply svle_eq); (focus (first | (simp only [push_cast, seval]; rfl))); (focus ((repeat' (first | rfl)); done))))); done)))))
noncomputable def m_kit_IsTagPart (x0 : List UInt8) : Option (Bool) := (sims_G1_0_0.1 x0).1
theorem spec_kit_IsTagPart (x0 : List UInt8) : ∀ r, m_kit_IsTagPart x0 = some r → PureSpec Tryd.prog 32 [.str x0] (.bool r) := (sims_G1_0_0.1 x0).2
noncomputable def m_kit_InBytes (x0 : List UInt8) (x1 : UInt8) (x2 : UInt8) : Option (Bool) := (sims_G1_0_0.2.1 x0 x1 x2).1
theorem spec_kit_InBytes (x0 : List UInt8) (x1 : UInt8) (x2 : UInt8) : ∀ r, m_kit_InBytes x0 x1 x2 = some r → PureSpec Tryd.prog 33 [.str x0, .int .u8 (x1).toNat, .int .u8 (x2).toNat] (.bool r) := (sims_G1_0_0.2.1 x0 x1 x2).2
noncomputable def m_slices_Index_byte_byte (x0 : List UInt8) (x1 : UInt8) : Option (Int) := (sims_G1_0_0.2.2.1 x0 x1).1
theorem spec_slices_Index_byte_byte (x0 : List UInt8) (x1 : UInt8) : ∀ r, m_slices_Index_byte_byte x0 x1 = some r → PureSpec Tryd.prog 35 [.slice (List.map rowY x0), .int .u8 (x1).toNat] (.int .i64 r) := (sims_G1_0_0.2.2.1 x0 x1).2
noncomputable def m_interchangeref2_mark (x0 : UInt8) : Option (Bool) := (sims_G1_0_0.2.2.2.1 x0).1
theorem spec_interchangeref2_mark (x0 : UInt8) : ∀ r, m_interchangeref2_mark x0 = some r → PureSpec Tryd.prog 22 [.int .u8 (x0).toNat] (.bool r) := (sims_G1_0_0.2.2.2.1 x0).2
noncomputable def m_interchangeref2_beginsTag (x0 : List UInt8) : Option (Bool) := (sims_G1_0_0.2.2.2.2.1 x0).1
theorem spec_interchangeref2_beginsTag (x0 : List UInt8) : ∀ r, m_interchangeref2_beginsTag x0 = some r → PureSpec Tryd.prog 53 [.str x0] (.bool r) := (sims_G1_0_0.2.2.2.2.1 x0).2
noncomputable def m_interchangeref2_checkText (x0 : List UInt8) : Option (Int) := (sims_G1_0_0.2.2.2.2.2 x0).1
theorem spec_interchangeref2_checkText (x0 : List UInt8) : ∀ r, m_interchangeref2_checkText x0 = some r → PureSpec Tryd.prog 77 [.str x0] (.int .i64 r) := (sims_G1_0_0.2.2.2.2.2 x0).2

/-- interchange/wire.isMarkByte -/
def sc_wire_isMarkByte : SC :=
  (.seq (.reg [.r 2 (.mv (.c (.d (.bool false))))])
  (.seq (.reg [.r 4 (.mv (.t 0)),
     .r 5 (.cvis (.t 4)),
     .r 3 (.mv (.t 5))])
  (.seq (.reg (.r 6 (.mv (.t 0)) :: .r 7 (.bin .geq (.t 6) (.c (.d (.int .u8 33)))) :: .r 8 (.mv (.t 7)) :: gapp [9, 10] 8 true (.r 9 (.mv (.t 0)) :: .r 10 (.bin .leq (.t 9) (.c (.d (.int .u8 126)))) :: []) (.r 11 (.pick (.t 8) (.t 10) (.c (.d (.bool false)))) :: .r 12 (.mv (.t 11)) :: gapp [13, 14, 15] 12 true (.r 13 (.mv (.t 3)) :: .c 14 (.f 32) [.t 13] :: .r 15 (.not (.t 14)) :: []) (.r 16 (.pick (.t 12) (.t 15) (.c (.d (.bool false)))) :: .r 17 (.mv (.t 16)) :: gapp [18, 19, 20] 17 true (.r 18 (.mv (.t 3)) :: .c 19 (.f 33) [.t 18, .c (.d (.int .u8 97)), .c (.d (.int .u8 122))] :: .r 20 (.not (.t 19)) :: []) (.r 21 (.pick (.t 17) (.t 20) (.c (.d (.bool false)))) :: .r 22 (.mv (.t 21)) :: gapp [23, 24, 25] 22 true (.r 23 (.mv (.t 3)) :: .c 24 (.f 34) [.t 23, .c (.d (.str [46, 45, 43, 95]))] :: .r 25 (.not (.t 24)) :: []) (.r 26 (.pick (.t 22) (.t 25) (.c (.d (.bool false)))) :: .r 2 (.mv (.t 26)) :: []))))))
  .ret)))
theorem fit_wire_isMarkByte : fits Tryd.prog 18 Tryd.f18 sc_wire_isMarkByte [.t 2] 1 = true := by kernel_rfl

/-- slices.Contains[[]byte,byte] -/
def sc_slices_Contains_byte_byte : SC :=
  (.seq (.reg [.r 4 (.mv (.c (.d (.bool false))))])
  (.seq (.reg [.r 5 (.mv (.t 0)),
     .r 6 (.mv (.t 1)),
     .c 7 (.f 35) [.t 5, .t 6],
     .r 8 (.bin .geq (.t 7) (.c (.d (.int .i64 0)))),
     .r 4 (.mv (.t 8))])
  .ret))
theorem fit_slices_Contains_byte_byte : fits Tryd.prog 19 Tryd.f19 sc_slices_Contains_byte_byte [.t 4] 2 = true := by kernel_rfl

/-- interchange/kit.IsTag -/
def sc_kit_IsTag : SC :=
  (.seq (.reg [.r 2 (.mv (.c (.d (.bool false))))])
  (.seq (.reg (.r 3 (.mv (.t 0)) :: .r 4 (.lenT (.t 3)) :: .r 5 (.bin .geq (.t 4) (.c (.d (.int .i64 2)))) :: .r 6 (.mv (.t 5)) :: gapp [7, 8, 9] 6 true (.r 7 (.mv (.t 0)) :: .r 8 (.lenT (.t 7)) :: .r 9 (.bin .leq (.t 8) (.c (.d (.int .i64 6)))) :: []) (.r 10 (.pick (.t 6) (.t 9) (.c (.d (.bool false)))) :: .r 11 (.mv (.t 10)) :: gapp [12, 13, 14, 15] 11 true (.r 12 (.mv (.t 0)) :: .r 13 (.sidx (.t 12) (.c (.d (.int .i64 0)))) :: .c 14 (.f 51) [.c (.d (.str [65, 66, 67, 68, 69, 70, 71, 72, 73, 74, 75, 76, 77, 78, 79, 80, 81, 82, 83, 84, 85, 86, 87, 88, 89, 90])), .t 13] :: .r 15 (.bin .geq (.t 14) (.c (.d (.int .i64 0)))) :: []) (.r 16 (.pick (.t 11) (.t 15) (.c (.d (.bool false)))) :: .r 17 (.mv (.t 16)) :: gapp [18, 19] 17 true (.r 18 (.mv (.t 0)) :: .c 19 (.f 32) [.t 18] :: []) (.r 20 (.pick (.t 17) (.t 19) (.c (.d (.bool false)))) :: .r 2 (.mv (.t 20)) :: [])))))
  .ret))
theorem fit_kit_IsTag : fits Tryd.prog 38 Tryd.f38 sc_kit_IsTag [.t 2] 1 = true := by kernel_rfl

/-- interchange/kit.IsText -/
def sc_kit_IsText : SC :=
  (.seq (.reg [.r 2 (.mv (.c (.d (.bool false))))])
  (.seq (.reg (.r 3 (.mv (.t 0)) :: .r 4 (.lenT (.t 3)) :: .r 5 (.bin .leq (.t 4) (.c (.d (.int .i64 1000)))) :: .r 6 (.mv (.t 5)) :: gapp [7, 8] 6 true (.r 7 (.mv (.t 0)) :: .c 8 (.f 33) [.t 7, .c (.d (.int .u8 32)), .c (.d (.int .u8 126))] :: []) (.r 9 (.pick (.t 6) (.t 8) (.c (.d (.bool false)))) :: .r 2 (.mv (.t 9)) :: [])))
  .ret))
theorem fit_kit_IsText : fits Tryd.prog 76 Tryd.f76 sc_kit_IsText [.t 2] 1 = true := by kernel_rfl

def sc_interchangeref2_CheckMarks_L1 : SC :=
  (.seq (.seq (.reg [.r 56 (.mv (.t 5)),
     .r 57 (.mv (.t 4)),
     .r 58 (.bin .lss (.t 56) (.t 57))])
  (.cond (.t 58)
    .skip
    (.exit 2)))
  (.seq (.block 3 (.seq (.regD [.r 61 (.mv (.t 3)),
       .r 62 (.mv (.t 4)),
       .r 63 (.idx 1 (.t 61) (.t 62)),
       .r 64 (.ld1 (.t 63)),
       .r 65 (.mv (.t 3)),
       .r 66 (.mv (.t 5)),
       .r 67 (.idx 1 (.t 65) (.t 66)),
       .r 68 (.ld1 (.t 67)),
       .r 69 (.bin .eql (.t 64) (.t 68))])
    (.cond (.t 69)
      (.seq (.reg [.r 2 (.mv (.c (.d (.int .i64 7))))])
      .ret)
      .skip)))
  (.reg [.r 59 (.mv (.t 5)),
     .r 60 (.bin .add (.t 59) (.c (.d (.int .i64 1)))),
     .r 5 (.mv (.t 60))])))
def sc_interchangeref2_CheckMarks_B1 : SC := .block 2 (.loop sc_interchangeref2_CheckMarks_L1)
def sc_interchangeref2_CheckMarks_L2 : SC :=
  (.seq (.seq (.reg [.r 50 (.mv (.t 4)),
     .r 51 (.mv (.t 3)),
     .r 52 (.len (.t 51)),
     .r 53 (.bin .lss (.t 50) (.t 52))])
  (.cond (.t 53)
    .skip
    (.exit 0)))
  (.seq (.block 1 (.seq (.reg [.r 5 (.mv (.c (.d (.int .i64 0))))])
    sc_interchangeref2_CheckMarks_B1))
  (.reg [.r 54 (.mv (.t 4)),
     .r 55 (.bin .add (.t 54) (.c (.d (.int .i64 1)))),
     .r 4 (.mv (.t 55))])))
def sc_interchangeref2_CheckMarks_B2 : SC := .block 0 (.loop sc_interchangeref2_CheckMarks_L2)
/-- interchange/interchangeref2.CheckMarks -/
def sc_interchangeref2_CheckMarks : SC :=
  (.seq (.reg [.r 1 (.boxI (.t 0)),
     .r 2 (.mv (.c (.d (.int .i64 0))))])
  (.seq (.seq (.reg (.r 6 (.fld 0 (.t 1)) :: .o 7 (.ld1 (.t 6)) :: .c 8 (.f 22) [.t 7] :: .r 9 (.not (.t 8)) :: .r 10 (.mv (.t 9)) :: gapp [11, 12, 13, 14] 10 false (.r 11 (.fld 1 (.t 1)) :: .r 12 (.ld1 (.t 11)) :: .c 13 (.f 22) [.t 12] :: .r 14 (.not (.t 13)) :: []) (.r 15 (.pick (.t 10) (.c (.d (.bool true))) (.t 14)) :: .r 16 (.mv (.t 15)) :: gapp [17, 18, 19, 20] 16 false (.r 17 (.fld 2 (.t 1)) :: .r 18 (.ld1 (.t 17)) :: .c 19 (.f 22) [.t 18] :: .r 20 (.not (.t 19)) :: []) (.r 21 (.pick (.t 16) (.c (.d (.bool true))) (.t 20)) :: .r 22 (.mv (.t 21)) :: gapp [23, 24, 25, 26] 22 false (.r 23 (.fld 4 (.t 1)) :: .r 24 (.ld1 (.t 23)) :: .c 25 (.f 22) [.t 24] :: .r 26 (.not (.t 25)) :: []) (.r 27 (.pick (.t 22) (.c (.d (.bool true))) (.t 26)) :: .r 28 (.mv (.t 27)) :: gapp [29, 30, 31, 32, 33, 34, 35, 36, 37] 28 false (.r 29 (.fld 3 (.t 1)) :: .r 30 (.ld1 (.t 29)) :: .r 31 (.bin .neq (.t 30) (.c (.d (.int .u8 0)))) :: .r 32 (.mv (.t 31)) :: gapp [33, 34, 35, 36] 32 true (.r 33 (.fld 3 (.t 1)) :: .r 34 (.ld1 (.t 33)) :: .c 35 (.f 22) [.t 34] :: .r 36 (.not (.t 35)) :: []) (.r 37 (.pick (.t 32) (.t 36) (.c (.d (.bool false)))) :: [])) (.r 38 (.pick (.t 28) (.c (.d (.bool true))) (.t 37)) :: []))))))
  (.cond (.t 38)
    (.seq (.reg [.r 2 (.mv (.c (.d (.int .i64 3))))])
    .ret)
    .skip))
  (.seq (.reg [.r 39 (.fld 0 (.t 1)),
     .o 40 (.ld1 (.t 39)),
     .r 41 (.fld 1 (.t 1)),
     .o 42 (.ld1 (.t 41)),
     .r 43 (.fld 2 (.t 1)),
     .o 44 (.ld1 (.t 43)),
     .r 45 (.fld 3 (.t 1)),
     .o 46 (.ld1 (.t 45)),
     .r 47 (.fld 4 (.t 1)),
     .o 48 (.ld1 (.t 47)),
     .r 49 (.bslice 1 [.t 40, .t 42, .t 44, .t 46, .t 48]),
     .r 3 (.mv (.t 49))])
  (.seq (.seq (.reg [.r 4 (.mv (.c (.d (.int .i64 0))))])
  sc_interchangeref2_CheckMarks_B2)
  (.seq (.reg [.r 2 (.mv (.c (.d (.int .i64 0))))])
  .ret)))))
theorem fit_interchangeref2_CheckMarks : fits Tryd.prog 13 Tryd.f13 sc_interchangeref2_CheckMarks [.t 2] 1 = true := by kernel_rfl

/-- interchange/interchangeref2.IsTag -/
def sc_interchangeref2_IsTag : SC :=
  (.seq (.reg [.r 2 (.mv (.c (.d (.bool false))))])
  (.seq (.reg (.r 3 (.mv (.t 0)) :: .r 4 (.lenT (.t 3)) :: .r 5 (.bin .geq (.t 4) (.c (.d (.int .i64 2)))) :: .r 6 (.mv (.t 5)) :: gapp [7, 8] 6 true (.r 7 (.mv (.t 0)) :: .c 8 (.f 53) [.t 7] :: []) (.r 9 (.pick (.t 6) (.t 8) (.c (.d (.bool false)))) :: .r 2 (.mv (.t 9)) :: [])))
  .ret))
theorem fit_interchangeref2_IsTag : fits Tryd.prog 54 Tryd.f54 sc_interchangeref2_IsTag [.t 2] 1 = true := by kernel_rfl

def sc_interchangeref2_checkElement_L1 : SC :=
  (.seq (.seq (.reg [.r 35 (.mv (.t 4)),
     .r 36 (.fld 0 (.t 1)),
     .o 37 (.ld1 (.t 36)),
     .r 38 (.mv (.t 3)),
     .r 39 (.idx 1 (.t 37) (.t 38)),
     .o 40 (.ld1 (.t 39)),
     .r 41 (.len (.t 40)),
     .r 42 (.bin .lss (.t 35) (.t 41))])
  (.cond (.t 42)
    .skip
    (.exit 2)))
  (.seq (.block 3 (.seq (.reg [.r 45 (.fld 0 (.t 1)),
       .o 46 (.ld1 (.t 45)),
       .r 47 (.mv (.t 3)),
       .r 48 (.idx 1 (.t 46) (.t 47)),
       .o 49 (.ld1 (.t 48)),
       .r 50 (.mv (.t 4)),
       .r 51 (.idx 1 (.t 49) (.t 50)),
       .o 52 (.ld1 (.t 51)),
       .c 53 (.f 77) [.t 52],
       .r 5 (.mv (.t 53))])
    (.seq (.reg [.r 54 (.mv (.t 5)),
       .r 55 (.bin .neq (.t 54) (.c (.d (.int .i64 0))))])
    (.cond (.t 55)
      (.seq (.reg [.r 56 (.mv (.t 5)),
         .r 2 (.mv (.t 56))])
      .ret)
      .skip))))
  (.reg [.r 43 (.mv (.t 4)),
     .r 44 (.bin .add (.t 43) (.c (.d (.int .i64 1)))),
     .r 4 (.mv (.t 44))])))
def sc_interchangeref2_checkElement_B1 : SC := .block 2 (.loop sc_interchangeref2_checkElement_L1)
def sc_interchangeref2_checkElement_L2 : SC :=
  (.seq (.seq (.reg [.r 14 (.mv (.t 3)),
     .r 15 (.fld 0 (.t 1)),
     .o 16 (.ld1 (.t 15)),
     .r 17 (.len (.t 16)),
     .r 18 (.bin .lss (.t 14) (.t 17))])
  (.cond (.t 18)
    .skip
    (.exit 0)))
  (.seq (.block 1 (.seq (.seq (.reg [.r 21 (.fld 0 (.t 1)),
       .o 22 (.ld1 (.t 21)),
       .r 23 (.mv (.t 3)),
       .r 24 (.idx 1 (.t 22) (.t 23)),
       .o 25 (.ld1 (.t 24)),
       .r 26 (.len (.t 25)),
       .r 27 (.bin .eql (.t 26) (.c (.d (.int .i64 0))))])
    (.cond (.t 27)
      (.seq (.reg [.r 2 (.mv (.c (.d (.int .i64 9))))])
      .ret)
      .skip))
    (.seq (.seq (.reg [.r 28 (.fld 0 (.t 1)),
       .o 29 (.ld1 (.t 28)),
       .r 30 (.mv (.t 3)),
       .r 31 (.idx 1 (.t 29) (.t 30)),
       .o 32 (.ld1 (.t 31)),
       .r 33 (.len (.t 32)),
       .r 34 (.bin .gtr (.t 33) (.c (.d (.int .i64 20))))])
    (.cond (.t 34)
      (.seq (.reg [.r 2 (.mv (.c (.d (.int .i64 2))))])
      .ret)
      .skip))
    (.seq (.reg [.r 4 (.mv (.c (.d (.int .i64 0))))])
    sc_interchangeref2_checkElement_B1))))
  (.reg [.r 19 (.mv (.t 3)),
     .r 20 (.bin .add (.t 19) (.c (.d (.int .i64 1)))),
     .r 3 (.mv (.t 20))])))
def sc_interchangeref2_checkElement_B2 : SC := .block 0 (.loop sc_interchangeref2_checkElement_L2)
/-- interchange/interchangeref2.checkElement -/
def sc_interchangeref2_checkElement : SC :=
  (.seq (.reg [.r 1 (.boxI (.t 0)),
     .r 2 (.mv (.c (.d (.int .i64 0))))])
  (.seq (.seq (.reg [.r 6 (.fld 0 (.t 1)),
     .o 7 (.ld1 (.t 6)),
     .r 8 (.len (.t 7)),
     .r 9 (.bin .eql (.t 8) (.c (.d (.int .i64 0))))])
  (.cond (.t 9)
    (.seq (.reg [.r 2 (.mv (.c (.d (.int .i64 9))))])
    .ret)
    .skip))
  (.seq (.seq (.reg [.r 10 (.fld 0 (.t 1)),
     .o 11 (.ld1 (.t 10)),
     .r 12 (.len (.t 11)),
     .r 13 (.bin .gtr (.t 12) (.c (.d (.int .i64 20))))])
  (.cond (.t 13)
    (.seq (.reg [.r 2 (.mv (.c (.d (.int .i64 2))))])
    .ret)
    .skip))
  (.seq (.seq (.reg [.r 3 (.mv (.c (.d (.int .i64 0))))])
  sc_interchangeref2_checkElement_B2)
  (.seq (.reg [.r 2 (.mv (.c (.d (.int .i64 0))))])
  .ret)))))
theorem fit_interchangeref2_checkElement : fits Tryd.prog 56 Tryd.f56 sc_interchangeref2_checkElement [.t 2] 1 = true := by kernel_rfl

set_option maxRecDepth 100000 in
set_option maxHeartbeats 40000000 in
noncomputable def sims_G1_1_0 : (∀ (x0 : UInt8), {m : Option (Bool) // ∀ r, m = some r → PureSpec Tryd.prog 18 [.int .u8 (x0).toNat] (.bool r)}) × (∀ (x0 : List UInt8) (x1 : UInt8), {m : Option (Bool) // ∀ r, m = some r → PureSpec Tryd.prog 19 [.slice (List.map rowY x0), .int .u8 (x1).toNat] (.bool r)}) × (∀ (x0 : List UInt8), {m : Option (Bool) // ∀ r, m = some r → PureSpec Tryd.prog 38 [.str x0] (.bool r)}) × (∀ (x0 : List UInt8), {m : Option (Bool) // ∀ r, m = some r → PureSpec Tryd.prog 76 [.str x0] (.bool r)}) × (∀ (x0 : Tapi_Marks), {m : Option (Int) // ∀ r, m = some r → PureSpec Tryd.prog 13 [.agg (rTapi_Marks x0)] (.int .i64 r)}) × (∀ (x0 : List UInt8), {m : Option (Bool) // ∀ r, m = some r → PureSpec Tryd.prog 54 [.str x0] (.bool r)}) × (∀ (x0 : Tapi_Element), {m : Option (Int) // ∀ r, m = some r → PureSpec Tryd.prog 56 [.agg (rTapi_Element x0)] (.int .i64 r)}) := by
  refine ⟨?g0, ?g1, ?g2, ?g3, ?g4, ?g5, ?g6⟩
  case' g0 => (intro x0; apply Subtype.mk; intro r hm; apply pure_walk Tryd.func18 fit_wire_isMarkByte; unfold sc_wire_isMarkByte)
  case' g1 => (intro x0 x1; apply Subtype.mk; intro r hm; apply pure_walk Tryd.func19 fit_slices_Contains_byte_byte; unfold sc_slices_Contains_byte_byte)
  case' g2 => (intro x0; apply Subtype.mk; intro r hm; apply pure_walk Tryd.func38 fit_kit_IsTag; unfold sc_kit_IsTag)
  case' g3 => (intro x0; apply Subtype.mk; intro r hm; apply pure_walk Tryd.func76 fit_kit_IsText; unfold sc_kit_IsText)
  case' g4 => (intro x0; apply Subtype.mk; intro r hm; apply pure_walk Tryd.func13 fit_interchangeref2_CheckMarks; unfold sc_interchangeref2_CheckMarks)
  case' g5 => (intro x0; apply Subtype.mk; intro r hm; apply pure_walk Tryd.func54 fit_interchangeref2_IsTag; unfold sc_interchangeref2_IsTag)
  case' g6 => (intro x0; apply Subtype.mk; intro r hm; apply pure_walk Tryd.func56 fit_interchangeref2_checkElement; unfold sc_interchangeref2_checkElement)
  all_goals (repeat' (first | with_reducible refine W_seq ?_ | with_reducible refine W_reg ?_ | with_reducible refine W_regD ?_ | with_reducible refine W_block ?_ | with_reducible refine W_skip ?_ | with_reducible refine W_ret ?_ | with_reducible refine W_exit ?_ | with_reducible refine O_nil ?_ | with_reducible refine K_seq ?_ | with_reducible refine K_seqE ?_ | with_reducible refine K_seqR ?_ | with_reducible refine K_block ?_ | with_reducible refine K_blockR ?_ | with_reducible refine O_o2r ?_ | ((with_reducible apply O_idxr hm); (iterate 2 (simp only [push_cast, seval]; rfl)); (intro _; rfl); intro e hm) | ((with_reducible apply O_sidxr hm); (iterate 2 (simp only [push_cast, seval]; rfl)); intro e hm) | ((with_reducible apply O_idxLr hm (row := rowY)); (iterate 2 (simp only [push_cast, seval]; rfl)); (focus ((repeat' (first | rfl | (with_reducible first | apply dv_slice | apply fold_nil | apply fold_cons))); done)); (simp only [push_cast, seval]; rfl); (intro _; rfl); intro e hm) | ((with_reducible apply O_r); (simp only [push_cast, seval]; rfl); (first | exact trivial)) | ((with_reducible apply O_and hm); (simp only [push_cast, seval]; rfl); rfl; intro v hm; rotate_left; intro v g hm) | ((with_reducible apply O_or hm); (simp only [push_cast, seval]; rfl); rfl; intro v hm; rotate_left; intro v g hm) | ((with_reducible apply O_cF hm); (simp only [push_cast, seval]; rfl); (first | apply spec_kit_IsTagPart _ | apply spec_kit_InBytes _ _ _ | apply spec_strings_ContainsAny _ _ | apply spec_slices_Index_byte_byte _ _ | apply spec_strings_IndexByte _ _ | apply spec_interchangeref2_mark _ | apply spec_interchangeref2_beginsTag _ | apply spec_interchangeref2_checkText _); (any_goals ((repeat' (first | rfl | (with_reducible first | apply f_cons) | (with_reducible apply f_byte; decide))); done)); intro x hm) | ((with_reducible apply S_condB hm); (simp only [push_cast, seval]; rfl); intro hm; rotate_left; intro hm) | ((with_reducible apply K_endS hm); (focus (simp only [resOf, resL, RV.get, push_cast, seval]; rfl)); (focus ((repeat' (first | rfl)); done))) | ((with_reducible apply K_bool hm); (simp only [push_cast, seval]; rfl)) | ((with_reducible apply K_leave hm); intro r hm) | ((with_reducible apply K_leaveR hm); intro r hm) | ((apply S_loopY (b := 2) (X := sc_interchangeref2_CheckMarks_B1) (x := sc_interchangeref2_CheckMarks_L1) rfl (fun (c : SV × SV) (s : Int) => st [(3, c.1), (4, c.2), (5, .d (.int .i64 s))] []) (c := (_, _)) (s0 := _) hm); (focus (first | (dsimp only; done))); (with_reducible refine Then.mk ?_ ?_)) | ((apply S_loopY (b := 0) (X := sc_interchangeref2_CheckMarks_B2) (x := sc_interchangeref2_CheckMarks_L2) rfl (fun (c : SV) (s : Int) => st [(3, c), (4, .d (.int .i64 s))] []) (c := _) (s0 := _) hm); (focus (first | (dsimp only; done))); (with_reducible refine Then.mk ?_ ?_)) | ((apply S_loopY (b := 2) (X := sc_interchangeref2_checkElement_B1) (x := sc_interchangeref2_checkElement_L1) rfl (fun (c : SV × SV) (s : Int) => st [(1, c.1), (3, c.2), (4, .d (.int .i64 s))] []) (c := (_, _)) (s0 := _) hm); (focus (first | (dsimp only; done))); (with_reducible refine Then.mk ?_ ?_)) | ((apply S_loopY (b := 0) (X := sc_interchangeref2_checkElement_B2) (x := sc_interchangeref2_checkElement_L2) rfl (fun (c : SV) (s : Int) => st [(1, c), (3, .d (.int .i64 s))] []) (c := _) (s0 := _) hm); (focus (first | (dsimp only; done))); (with_reducible refine Then.mk ?_ ?_)) | ((apply K_next (s' := _) hm); (focus (first | (dsimp only; done)))) | ((apply K_brk (s' := _) hm); (focus (first | (dsimp only; done)))) | (((with_reducible apply K_brkR hm); intro r hm)) | (((with_reducible apply LoopB.of); (focus (first | (dsimp only; done))); (focus ((intro _; repeat' (first | with_reducible exact impC_end | with_reducible refine impC_seq ?_ | with_reducible refine impC_block ?_ | ((with_reducible refine impC_rnd ?_); intro _) | ((with_reducible refine impC_brk ?_); intro _))))); (intro s o hm; first | unfold sc_interchangeref2_CheckMarks_L1 | unfold sc_interchangeref2_CheckMarks_L2 | unfold sc_interchangeref2_checkElement_L1 | unfold sc_interchangeref2_checkElement_L2); rotate_left; intro s hm)) | (((apply imp_stT; (repeat' (first | with_reducible exact keepT_nil | with_reducible exact keepC_nil | with_reducible apply keepT_cons | ((with_reducible apply svle_eq); (focus (first | (simp only [push_cast, seval]; rfl))); (focus ((repeat' (first | rfl)); done))))); done)))))
noncomputable def m_wire_isMarkByte (x0 : UInt8) : Option (Bool) := (sims_G1_1_0.1 x0).1
theorem spec_wire_isMarkByte (x0 : UInt8) : ∀ r, m_wire_isMarkByte x0 = some r → PureSpec Tryd.prog 18 [.int .u8 (x0).toNat] (.bool r) := (sims_G1_1_0.1 x0).2
noncomputable def m_slices_Contains_byte_byte (x0 : List UInt8) (x1 : UInt8) : Option (Bool) := (sims_G1_1_0.2.1 x0 x1).1
theorem spec_slices_Contains_byte_byte (x0 : List UInt8) (x1 : UInt8) : ∀ r, m_slices_Contains_byte_byte x0 x1 = some r → PureSpec Tryd.prog 19 [.slice (List.map rowY x0), .int .u8 (x1).toNat] (.bool r) := (sims_G1_1_0.2.1 x0 x1).2
noncomputable def m_kit_IsTag (x0 : List UInt8) : Option (Bool) := (sims_G1_1_0.2.2.1 x0).1
theorem spec_kit_IsTag (x0 : List UInt8) : ∀ r, m_kit_IsTag x0 = some r → PureSpec Tryd.prog 38 [.str x0] (.bool r) := (sims_G1_1_0.2.2.1 x0).2
noncomputable def m_kit_IsText (x0 : List UInt8) : Option (Bool) := (sims_G1_1_0.2.2.2.1 x0).1
theorem spec_kit_IsText (x0 : List UInt8) : ∀ r, m_kit_IsText x0 = some r → PureSpec Tryd.prog 76 [.str x0] (.bool r) := (sims_G1_1_0.2.2.2.1 x0).2
noncomputable def m_interchangeref2_CheckMarks (x0 : Tapi_Marks) : Option (Int) := (sims_G1_1_0.2.2.2.2.1 x0).1
theorem spec_interchangeref2_CheckMarks (x0 : Tapi_Marks) : ∀ r, m_interchangeref2_CheckMarks x0 = some r → PureSpec Tryd.prog 13 [.agg (rTapi_Marks x0)] (.int .i64 r) := (sims_G1_1_0.2.2.2.2.1 x0).2
noncomputable def m_interchangeref2_IsTag (x0 : List UInt8) : Option (Bool) := (sims_G1_1_0.2.2.2.2.2.1 x0).1
theorem spec_interchangeref2_IsTag (x0 : List UInt8) : ∀ r, m_interchangeref2_IsTag x0 = some r → PureSpec Tryd.prog 54 [.str x0] (.bool r) := (sims_G1_1_0.2.2.2.2.2.1 x0).2
noncomputable def m_interchangeref2_checkElement (x0 : Tapi_Element) : Option (Int) := (sims_G1_1_0.2.2.2.2.2.2 x0).1
theorem spec_interchangeref2_checkElement (x0 : Tapi_Element) : ∀ r, m_interchangeref2_checkElement x0 = some r → PureSpec Tryd.prog 56 [.agg (rTapi_Element x0)] (.int .i64 r) := (sims_G1_1_0.2.2.2.2.2.2 x0).2

def sc_wire_CheckMarks_L1 : SC :=
  (.seq (.reg [.r 20 (.bin .lss (.t 19) (.t 18))])
  (.seq (.cond (.t 20)
    .skip
    (.exit 0))
  (.seq (.block 1 (.seq (.reg [.r 21 (.idx 1 (.t 17) (.t 19)),
       .o 22 (.ld1 (.t 21)),
       .r 5 (.mv (.t 22))])
    (.seq (.reg [.r 23 (.mv (.t 5)),
       .c 24 (.f 18) [.t 23],
       .r 25 (.not (.t 24))])
    (.cond (.t 25)
      (.seq (.reg [.r 2 (.mv (.c (.d (.int .i64 3))))])
      .ret)
      .skip))))
  (.reg [.r 26 (.bin .add (.t 19) (.c (.d (.int .i64 1)))),
     .r 19 (.mv (.t 26))]))))
def sc_wire_CheckMarks_B1 : SC := .block 0 (.loop sc_wire_CheckMarks_L1)
def sc_wire_CheckMarks_L2 : SC :=
  (.seq (.reg [.r 43 (.bin .lss (.t 42) (.t 41))])
  (.seq (.cond (.t 43)
    .skip
    (.exit 2))
  (.seq (.block 3 (.seq (.reg [.r 44 (.mv (.t 42)),
       .r 45 (.idx 1 (.t 40) (.t 42)),
       .o 46 (.ld1 (.t 45)),
       .r 6 (.mv (.t 44)),
       .r 7 (.mv (.t 46))])
    (.seq (.reg [.r 47 (.mv (.t 3)),
       .r 48 (.mv (.t 6)),
       .r 49 (.mv (.t 3)),
       .r 50 (.len (.t 49)),
       .r 51 (.mins (.t 48) [.t 50]),
       .r 52 (.slc 1 (.t 47) none (some (.t 51))),
       .r 53 (.mv (.t 7)),
       .c 54 (.f 19) [.t 52, .t 53]])
    (.cond (.t 54)
      (.seq (.reg [.r 2 (.mv (.c (.d (.int .i64 7))))])
      .ret)
      .skip))))
  (.reg [.r 55 (.bin .add (.t 42) (.c (.d (.int .i64 1)))),
     .r 42 (.mv (.t 55))]))))
def sc_wire_CheckMarks_B2 : SC := .block 2 (.loop sc_wire_CheckMarks_L2)
/-- interchange/wire.CheckMarks -/
def sc_wire_CheckMarks : SC :=
  (.seq (.reg [.r 1 (.boxI (.t 0)),
     .r 2 (.mv (.c (.d (.int .i64 0))))])
  (.seq (.reg [.r 8 (.fld 0 (.t 1)),
     .o 9 (.ld1 (.t 8)),
     .r 10 (.fld 1 (.t 1)),
     .o 11 (.ld1 (.t 10)),
     .r 12 (.fld 2 (.t 1)),
     .o 13 (.ld1 (.t 12)),
     .r 14 (.fld 4 (.t 1)),
     .o 15 (.ld1 (.t 14)),
     .r 16 (.bslice 1 [.t 9, .t 11, .t 13, .t 15]),
     .r 3 (.mv (.t 16))])
  (.seq (.seq (.reg [.r 17 (.mv (.t 3)),
     .r 18 (.len (.t 17)),
     .r 19 (.mv (.c (.d (.int .i64 0))))])
  sc_wire_CheckMarks_B1)
  (.seq (.seq (.reg (.r 27 (.fld 3 (.t 1)) :: .o 28 (.ld1 (.t 27)) :: .r 29 (.bin .neq (.t 28) (.c (.d (.int .u8 0)))) :: .r 30 (.mv (.t 29)) :: gapp [31, 32, 33, 34] 30 true (.r 31 (.fld 3 (.t 1)) :: .r 32 (.ld1 (.t 31)) :: .c 33 (.f 18) [.t 32] :: .r 34 (.not (.t 33)) :: []) (.r 35 (.pick (.t 30) (.t 34) (.c (.d (.bool false)))) :: [])))
  (.cond (.t 35)
    (.seq (.reg [.r 2 (.mv (.c (.d (.int .i64 3))))])
    .ret)
    .skip))
  (.seq (.seq (.reg [.r 36 (.mv (.t 3)),
     .r 37 (.fld 3 (.t 1)),
     .o 38 (.ld1 (.t 37)),
     .r 39 (.bslice 1 [.t 38]),
     .w 40 (.app 5 1 (.t 36) (.t 39)),
     .r 41 (.len (.t 40)),
     .r 42 (.mv (.c (.d (.int .i64 0))))])
  sc_wire_CheckMarks_B2)
  (.seq (.reg [.r 2 (.mv (.c (.d (.int .i64 0))))])
  .ret))))))
theorem fit_wire_CheckMarks : fits Tryd.prog 11 Tryd.f11 sc_wire_CheckMarks [.t 2] 1 = true := by kernel_rfl

/-- interchange/wire.textFault -/
def sc_wire_textFault : SC :=
  (.seq (.reg [.r 2 (.mv (.c (.d (.int .i64 0))))])
  (.seq (.seq (.reg [.r 3 (.mv (.t 0)),
     .r 4 (.lenT (.t 3)),
     .r 5 (.bin .gtr (.t 4) (.c (.d (.int .i64 1000))))])
  (.cond (.t 5)
    (.seq (.reg [.r 2 (.mv (.c (.d (.int .i64 2))))])
    .ret)
    .skip))
  (.seq (.seq (.reg [.r 6 (.mv (.t 0)),
     .c 7 (.f 76) [.t 6],
     .r 8 (.not (.t 7))])
  (.cond (.t 8)
    (.seq (.reg [.r 2 (.mv (.c (.d (.int .i64 3))))])
    .ret)
    .skip))
  (.seq (.reg [.r 2 (.mv (.c (.d (.int .i64 0))))])
  .ret))))
theorem fit_wire_textFault : fits Tryd.prog 52 Tryd.f52 sc_wire_textFault [.t 2] 1 = true := by kernel_rfl

def sc_interchangeref2_CheckOne_L1 : SC :=
  (.seq (.seq (.reg [.r 13 (.mv (.t 3)),
     .r 14 (.fld 1 (.t 1)),
     .o 15 (.ld1 (.t 14)),
     .r 16 (.len (.t 15)),
     .r 17 (.bin .lss (.t 13) (.t 16))])
  (.cond (.t 17)
    .skip
    (.exit 0)))
  (.seq (.block 1 (.seq (.reg [.r 20 (.fld 1 (.t 1)),
       .o 21 (.ld1 (.t 20)),
       .r 22 (.mv (.t 3)),
       .r 23 (.idx 1 (.t 21) (.t 22)),
       .o 24 (.ldA 1 (.t 23)),
       .c 25 (.f 56) [.t 24],
       .r 4 (.mv (.t 25))])
    (.seq (.reg [.r 26 (.mv (.t 4)),
       .r 27 (.bin .neq (.t 26) (.c (.d (.int .i64 0))))])
    (.cond (.t 27)
      (.seq (.reg [.r 28 (.mv (.t 4)),
         .r 2 (.mv (.t 28))])
      .ret)
      .skip))))
  (.reg [.r 18 (.mv (.t 3)),
     .r 19 (.bin .add (.t 18) (.c (.d (.int .i64 1)))),
     .r 3 (.mv (.t 19))])))
def sc_interchangeref2_CheckOne_B1 : SC := .block 0 (.loop sc_interchangeref2_CheckOne_L1)
/-- interchange/interchangeref2.CheckOne -/
def sc_interchangeref2_CheckOne : SC :=
  (.seq (.reg [.r 1 (.boxI (.t 0)),
     .r 2 (.mv (.c (.d (.int .i64 0))))])
  (.seq (.seq (.reg [.r 5 (.fld 0 (.t 1)),
     .o 6 (.ld1 (.t 5)),
     .c 7 (.f 54) [.t 6],
     .r 8 (.not (.t 7))])
  (.cond (.t 8)
    (.seq (.reg [.r 2 (.mv (.c (.d (.int .i64 5))))])
    .ret)
    .skip))
  (.seq (.seq (.reg [.r 9 (.fld 1 (.t 1)),
     .o 10 (.ld1 (.t 9)),
     .r 11 (.len (.t 10)),
     .r 12 (.bin .gtr (.t 11) (.c (.d (.int .i64 50))))])
  (.cond (.t 12)
    (.seq (.reg [.r 2 (.mv (.c (.d (.int .i64 2))))])
    .ret)
    .skip))
  (.seq (.seq (.reg [.r 3 (.mv (.c (.d (.int .i64 0))))])
  sc_interchangeref2_CheckOne_B1)
  (.seq (.reg [.r 2 (.mv (.c (.d (.int .i64 0))))])
  .ret)))))
theorem fit_interchangeref2_CheckOne : fits Tryd.prog 42 Tryd.f42 sc_interchangeref2_CheckOne [.t 2] 1 = true := by kernel_rfl

set_option maxRecDepth 100000 in
set_option maxHeartbeats 40000000 in
noncomputable def sims_G1_2_0 : (∀ (x0 : Tapi_Marks), {m : Option (Int) // ∀ r, m = some r → PureSpec Tryd.prog 11 [.agg (rTapi_Marks x0)] (.int .i64 r)}) × (∀ (x0 : List UInt8), {m : Option (Int) // ∀ r, m = some r → PureSpec Tryd.prog 52 [.str x0] (.int .i64 r)}) × (∀ (x0 : Tapi_Segment), {m : Option (Int) // ∀ r, m = some r → PureSpec Tryd.prog 42 [.agg (rTapi_Segment x0)] (.int .i64 r)}) := by
  refine ⟨?g0, ?g1, ?g2⟩
  case' g0 => (intro x0; apply Subtype.mk; intro r hm; apply pure_walk Tryd.func11 fit_wire_CheckMarks; unfold sc_wire_CheckMarks)
  case' g1 => (intro x0; apply Subtype.mk; intro r hm; apply pure_walk Tryd.func52 fit_wire_textFault; unfold sc_wire_textFault)
  case' g2 => (intro x0; apply Subtype.mk; intro r hm; apply pure_walk Tryd.func42 fit_interchangeref2_CheckOne; unfold sc_interchangeref2_CheckOne)
  all_goals (repeat' (first | with_reducible refine W_seq ?_ | with_reducible refine W_reg ?_ | with_reducible refine W_block ?_ | with_reducible refine W_skip ?_ | with_reducible refine W_ret ?_ | with_reducible refine W_exit ?_ | with_reducible refine O_nil ?_ | with_reducible refine K_seq ?_ | with_reducible refine K_seqE ?_ | with_reducible refine K_seqR ?_ | with_reducible refine K_block ?_ | with_reducible refine K_blockR ?_ | with_reducible refine O_o2r ?_ | ((with_reducible apply O_idxr hm); (iterate 2 (simp only [push_cast, seval]; rfl)); (intro _; rfl); intro e hm) | ((with_reducible apply O_idxVr hm); (iterate 3 (simp only [push_cast, seval]; rfl)); intro e hm) | ((with_reducible apply O_idxLr hm (row := rowY)); (iterate 2 (simp only [push_cast, seval]; rfl)); (focus ((repeat' (first | rfl | (with_reducible first | apply dv_slice | apply fold_nil | apply fold_cons))); done)); (simp only [push_cast, seval]; rfl); (intro _; rfl); intro e hm) | ((with_reducible apply O_slcLr hm (row := rowY)); (iterate 2 (simp only [push_cast, seval]; rfl)); (focus ((repeat' (first | rfl | (with_reducible first | apply dv_slice | apply fold_nil | apply fold_cons))); done)); (iterate 2 (simp only [push_cast, seval]; rfl)); intro e hm) | ((with_reducible apply O_r); (simp only [push_cast, seval]; rfl); (first | exact trivial)) | ((with_reducible apply O_ldV1r hm); (iterate 2 (simp only [push_cast, seval]; rfl)); (intro _; rfl); intro e hm) | ((with_reducible apply O_and hm); (simp only [push_cast, seval]; rfl); rfl; intro v hm; rotate_left; intro v g hm) | ((with_reducible apply O_cF hm); (simp only [push_cast, seval]; rfl); (first | apply spec_wire_isMarkByte _ | apply spec_slices_Contains_byte_byte _ _ | apply spec_kit_IsText _ | apply spec_interchangeref2_IsTag _ | apply spec_interchangeref2_checkElement _); (any_goals ((repeat' (first | rfl)); done)); intro x hm) | ((with_reducible apply O_appL hm (row := rowY)); (iterate 5 (simp only [push_cast, seval]; rfl)); (focus ((repeat' (first | rfl | (with_reducible first | apply dv_slice | apply fold_nil | apply fold_cons))); done)); (focus ((repeat' (first | rfl | (with_reducible first | apply dv_slice | apply fold_nil | apply fold_cons))); done)); rfl; decide; (intro _; rfl); intro hm) | ((with_reducible apply S_condB hm); (simp only [push_cast, seval]; rfl); intro hm; rotate_left; intro hm) | ((with_reducible apply K_endS hm); (focus (simp only [resOf, resL, RV.get, push_cast, seval]; rfl)); (focus ((repeat' (first | rfl)); done))) | ((with_reducible apply K_bool hm); (simp only [push_cast, seval]; rfl)) | ((with_reducible apply K_leave hm); intro r hm) | ((with_reducible apply K_leaveR hm); intro r hm) | ((apply S_loopY (b := 0) (X := sc_wire_CheckMarks_B1) (x := sc_wire_CheckMarks_L1) rfl (fun (c : SV × SV × SV × SV) (s : Int) => st [(1, c.1), (3, c.2.1), (17, c.2.2.1), (18, c.2.2.2), (19, .d (.int .i64 s))] []) (c := (_, _, _, _)) (s0 := _) hm); (focus (first | (dsimp only; done))); (with_reducible refine Then.mk ?_ ?_)) | ((apply S_loopY (b := 2) (X := sc_wire_CheckMarks_B2) (x := sc_wire_CheckMarks_L2) rfl (fun (c : SV × Ch × SV) (s : Int) => st [(3, c.1), (40, .vec 40), (41, c.2.2), (42, .d (.int .i64 s))] [(40, c.2.1)]) (c := (_, _, _)) (s0 := _) hm); (focus (first | (dsimp only; done))); (with_reducible refine Then.mk ?_ ?_)) | ((apply S_loopY (b := 0) (X := sc_interchangeref2_CheckOne_B1) (x := sc_interchangeref2_CheckOne_L1) rfl (fun (c : SV) (s : Int) => st [(1, c), (3, .d (.int .i64 s))] []) (c := _) (s0 := _) hm); (focus (first | (dsimp only; done))); (with_reducible refine Then.mk ?_ ?_)) | ((apply K_next (s' := _) hm); (focus (first | (dsimp only; done)))) | ((apply K_brk (s' := _) hm); (focus (first | (dsimp only; done)))) | (((with_reducible apply K_brkR hm); intro r hm)) | (((with_reducible apply LoopB.of); (focus (first | (dsimp only; done))); (focus ((intro _; repeat' (first | with_reducible exact impC_end | with_reducible refine impC_seq ?_)))); (intro s o hm; first | unfold sc_wire_CheckMarks_L1 | unfold sc_wire_CheckMarks_L2 | unfold sc_interchangeref2_CheckOne_L1); rotate_left; intro s hm)) | (((apply imp_stT; (repeat' (first | with_reducible exact keepT_nil | with_reducible exact keepC_nil | with_reducible apply keepT_cons | with_reducible apply keepC_cons | ((with_reducible apply svle_eq); (focus (first | (simp only [push_cast, seval]; rfl))); (focus ((repeat' (first | rfl)); done))) | ((with_reducible apply chle_eq); (focus (first | (simp only [push_cast, seval]; rfl))); (first | with_reducible exact chle_rfl rfl)))); done)))))
noncomputable def m_wire_CheckMarks (x0 : Tapi_Marks) : Option (Int) := (sims_G1_2_0.1 x0).1
theorem spec_wire_CheckMarks (x0 : Tapi_Marks) : ∀ r, m_wire_CheckMarks x0 = some r → PureSpec Tryd.prog 11 [.agg (rTapi_Marks x0)] (.int .i64 r) := (sims_G1_2_0.1 x0).2
noncomputable def m_wire_textFault (x0 : List UInt8) : Option (Int) := (sims_G1_2_0.2.1 x0).1
theorem spec_wire_textFault (x0 : List UInt8) : ∀ r, m_wire_textFault x0 = some r → PureSpec Tryd.prog 52 [.str x0] (.int .i64 r) := (sims_G1_2_0.2.1 x0).2
noncomputable def m_interchangeref2_CheckOne (x0 : Tapi_Segment) : Option (Int) := (sims_G1_2_0.2.2 x0).1
theorem spec_interchangeref2_CheckOne (x0 : Tapi_Segment) : ∀ r, m_interchangeref2_CheckOne x0 = some r → PureSpec Tryd.prog 42 [.agg (rTapi_Segment x0)] (.int .i64 r) := (sims_G1_2_0.2.2 x0).2

def sc_wire_elementFault_L1 : SC :=
  (.seq (.reg [.r 32 (.bin .lss (.t 31) (.t 30))])
  (.seq (.cond (.t 32)
    .skip
    (.exit 2))
  (.seq (.block 3 (.seq (.reg [.r 33 (.idx 1 (.t 29) (.t 31)),
       .o 34 (.ld1 (.t 33)),
       .r 6 (.mv (.t 34))])
    (.seq (.reg [.r 35 (.mv (.t 6)),
       .c 36 (.f 52) [.t 35],
       .r 7 (.mv (.t 36))])
    (.seq (.reg [.r 37 (.mv (.t 7)),
       .r 38 (.bin .neq (.t 37) (.c (.d (.int .i64 0))))])
    (.cond (.t 38)
      (.seq (.reg [.r 39 (.mv (.t 7)),
         .r 2 (.mv (.t 39))])
      .ret)
      .skip)))))
  (.reg [.r 40 (.bin .add (.t 31) (.c (.d (.int .i64 1)))),
     .r 31 (.mv (.t 40))]))))
def sc_wire_elementFault_B1 : SC := .block 2 (.loop sc_wire_elementFault_L1)
def sc_wire_elementFault_L2 : SC :=
  (.seq (.reg [.r 20 (.bin .lss (.t 19) (.t 18))])
  (.seq (.cond (.t 20)
    .skip
    (.exit 0))
  (.seq (.block 1 (.seq (.reg [.r 21 (.idx 1 (.t 17) (.t 19)),
       .o 22 (.ld1 (.t 21)),
       .r 4 (.mv (.t 22))])
    (.seq (.seq (.reg [.r 23 (.mv (.t 4)),
       .r 24 (.len (.t 23)),
       .r 25 (.bin .eql (.t 24) (.c (.d (.int .i64 0))))])
    (.cond (.t 25)
      (.seq (.reg [.r 2 (.mv (.c (.d (.int .i64 9))))])
      .ret)
      .skip))
    (.seq (.seq (.reg [.r 26 (.mv (.t 4)),
       .r 27 (.len (.t 26)),
       .r 28 (.bin .gtr (.t 27) (.c (.d (.int .i64 20))))])
    (.cond (.t 28)
      (.seq (.reg [.r 2 (.mv (.c (.d (.int .i64 2))))])
      .ret)
      .skip))
    (.seq (.reg [.r 29 (.mv (.t 4)),
       .r 30 (.len (.t 29)),
       .r 31 (.mv (.c (.d (.int .i64 0))))])
    sc_wire_elementFault_B1)))))
  (.reg [.r 41 (.bin .add (.t 19) (.c (.d (.int .i64 1)))),
     .r 19 (.mv (.t 41))]))))
def sc_wire_elementFault_B2 : SC := .block 0 (.loop sc_wire_elementFault_L2)
/-- interchange/wire.elementFault -/
def sc_wire_elementFault : SC :=
  (.seq (.reg [.r 1 (.boxI (.t 0)),
     .r 2 (.mv (.c (.d (.int .i64 0))))])
  (.seq (.seq (.reg [.r 8 (.fld 0 (.t 1)),
     .o 9 (.ld1 (.t 8)),
     .r 10 (.len (.t 9)),
     .r 11 (.bin .eql (.t 10) (.c (.d (.int .i64 0))))])
  (.cond (.t 11)
    (.seq (.reg [.r 2 (.mv (.c (.d (.int .i64 9))))])
    .ret)
    .skip))
  (.seq (.seq (.reg [.r 12 (.fld 0 (.t 1)),
     .o 13 (.ld1 (.t 12)),
     .r 14 (.len (.t 13)),
     .r 15 (.bin .gtr (.t 14) (.c (.d (.int .i64 20))))])
  (.cond (.t 15)
    (.seq (.reg [.r 2 (.mv (.c (.d (.int .i64 2))))])
    .ret)
    .skip))
  (.seq (.seq (.reg [.r 16 (.fld 0 (.t 1)),
     .o 17 (.ld1 (.t 16)),
     .r 18 (.len (.t 17)),
     .r 19 (.mv (.c (.d (.int .i64 0))))])
  sc_wire_elementFault_B2)
  (.seq (.reg [.r 2 (.mv (.c (.d (.int .i64 0))))])
  .ret)))))
theorem fit_wire_elementFault : fits Tryd.prog 39 Tryd.f39 sc_wire_elementFault [.t 2] 1 = true := by kernel_rfl

def sc_interchangeref2_CheckSegments_L1 : SC :=
  (.seq (.seq (.reg [.r 8 (.mv (.t 3)),
     .r 9 (.mv (.t 0)),
     .r 10 (.len (.t 9)),
     .r 11 (.bin .lss (.t 8) (.t 10))])
  (.cond (.t 11)
    .skip
    (.exit 0)))
  (.seq (.block 1 (.seq (.reg [.r 14 (.mv (.t 0)),
       .r 15 (.mv (.t 3)),
       .r 16 (.idx 2 (.t 14) (.t 15)),
       .o 17 (.ldA 2 (.t 16)),
       .c 18 (.f 42) [.t 17],
       .r 4 (.mv (.t 18))])
    (.seq (.reg [.r 19 (.mv (.t 4)),
       .r 20 (.bin .neq (.t 19) (.c (.d (.int .i64 0))))])
    (.cond (.t 20)
      (.seq (.reg [.r 21 (.mv (.t 4)),
         .r 2 (.mv (.t 21))])
      .ret)
      .skip))))
  (.reg [.r 12 (.mv (.t 3)),
     .r 13 (.bin .add (.t 12) (.c (.d (.int .i64 1)))),
     .r 3 (.mv (.t 13))])))
def sc_interchangeref2_CheckSegments_B1 : SC := .block 0 (.loop sc_interchangeref2_CheckSegments_L1)
/-- interchange/interchangeref2.CheckSegments -/
def sc_interchangeref2_CheckSegments : SC :=
  (.seq (.reg [.r 2 (.mv (.c (.d (.int .i64 0))))])
  (.seq (.seq (.reg [.r 5 (.mv (.t 0)),
     .r 6 (.len (.t 5)),
     .r 7 (.bin .gtr (.t 6) (.c (.d (.int .i64 2000))))])
  (.cond (.t 7)
    (.seq (.reg [.r 2 (.mv (.c (.d (.int .i64 2))))])
    .ret)
    .skip))
  (.seq (.seq (.reg [.r 3 (.mv (.c (.d (.int .i64 0))))])
  sc_interchangeref2_CheckSegments_B1)
  (.seq (.reg [.r 2 (.mv (.c (.d (.int .i64 0))))])
  .ret))))
theorem fit_interchangeref2_CheckSegments : fits Tryd.prog 25 Tryd.f25 sc_interchangeref2_CheckSegments [.t 2] 1 = true := by kernel_rfl

set_option maxRecDepth 100000 in
set_option maxHeartbeats 40000000 in
noncomputable def sims_G1_3_0 : (∀ (x0 : Tapi_Element), {m : Option (Int) // ∀ r, m = some r → PureSpec Tryd.prog 39 [.agg (rTapi_Element x0)] (.int .i64 r)}) × (∀ (x0 : List Tapi_Segment), {m : Option (Int) // ∀ r, m = some r → PureSpec Tryd.prog 25 [.slice (List.map rTapi_Segment x0)] (.int .i64 r)}) := by
  refine ⟨?g0, ?g1⟩
  case' g0 => (intro x0; apply Subtype.mk; intro r hm; apply pure_walk Tryd.func39 fit_wire_elementFault; unfold sc_wire_elementFault)
  case' g1 => (intro x0; apply Subtype.mk; intro r hm; apply pure_walk Tryd.func25 fit_interchangeref2_CheckSegments; unfold sc_interchangeref2_CheckSegments)
  all_goals (repeat' (first | with_reducible refine W_seq ?_ | with_reducible refine W_reg ?_ | with_reducible refine W_block ?_ | with_reducible refine W_skip ?_ | with_reducible refine W_ret ?_ | with_reducible refine W_exit ?_ | with_reducible refine O_nil ?_ | with_reducible refine K_seq ?_ | with_reducible refine K_seqE ?_ | with_reducible refine K_seqR ?_ | with_reducible refine K_block ?_ | with_reducible refine K_blockR ?_ | with_reducible refine O_o2r ?_ | ((with_reducible apply O_idxr hm); (iterate 2 (simp only [push_cast, seval]; rfl)); (intro _; rfl); intro e hm) | ((with_reducible apply O_r); (simp only [push_cast, seval]; rfl); (first | exact trivial)) | ((with_reducible apply O_cF hm); (simp only [push_cast, seval]; rfl); (first | apply spec_wire_textFault _ | apply spec_interchangeref2_CheckOne _); (any_goals ((repeat' (first | rfl)); done)); intro x hm) | ((with_reducible apply S_condB hm); (simp only [push_cast, seval]; rfl); intro hm; rotate_left; intro hm) | ((with_reducible apply K_endS hm); (focus (simp only [resOf, resL, RV.get, push_cast, seval]; rfl)); (focus ((repeat' (first | rfl)); done))) | ((with_reducible apply K_leave hm); intro r hm) | ((with_reducible apply K_leaveR hm); intro r hm) | ((apply S_loopY (b := 2) (X := sc_wire_elementFault_B1) (x := sc_wire_elementFault_L1) rfl (fun (c : SV × SV × SV × SV × SV) (s : Int) => st [(17, c.1), (18, c.2.1), (19, c.2.2.1), (29, c.2.2.2.1), (30, c.2.2.2.2), (31, .d (.int .i64 s))] []) (c := (_, _, _, _, _)) (s0 := _) hm); (focus (first | (dsimp only; done))); (with_reducible refine Then.mk ?_ ?_)) | ((apply S_loopY (b := 0) (X := sc_wire_elementFault_B2) (x := sc_wire_elementFault_L2) rfl (fun (c : SV × SV) (s : Int) => st [(17, c.1), (18, c.2), (19, .d (.int .i64 s))] []) (c := (_, _)) (s0 := _) hm); (focus (first | (dsimp only; done))); (with_reducible refine Then.mk ?_ ?_)) | ((apply S_loopY (b := 0) (X := sc_interchangeref2_CheckSegments_B1) (x := sc_interchangeref2_CheckSegments_L1) rfl (fun (c : SV) (s : Int) => st [(0, c), (3, .d (.int .i64 s))] []) (c := _) (s0 := _) hm); (focus (first | (dsimp only; done))); (with_reducible refine Then.mk ?_ ?_)) | ((apply K_next (s' := _) hm); (focus (first | (dsimp only; done)))) | ((apply K_brk (s' := _) hm); (focus (first | (dsimp only; done)))) | (((with_reducible apply K_brkR hm); intro r hm)) | (((with_reducible apply LoopB.of); (focus (first | (dsimp only; done))); (focus ((intro _; repeat' (first | with_reducible exact impC_end | with_reducible refine impC_seq ?_ | with_reducible refine impC_block ?_ | ((with_reducible refine impC_rnd ?_); intro _) | ((with_reducible refine impC_brk ?_); intro _))))); (intro s o hm; first | unfold sc_wire_elementFault_L1 | unfold sc_wire_elementFault_L2 | unfold sc_interchangeref2_CheckSegments_L1); rotate_left; intro s hm)) | (((apply imp_stT; (repeat' (first | with_reducible exact keepT_nil | with_reducible exact keepC_nil | with_reducible apply keepT_cons | ((with_reducible apply svle_eq); (focus (first | (simp only [push_cast, seval]; rfl))); (focus ((repeat' (first | rfl)); done))))); done)))))
noncomputable def m_wire_elementFault (x0 : Tapi_Element) : Option (Int) := (sims_G1_3_0.1 x0).1
theorem spec_wire_elementFault (x0 : Tapi_Element) : ∀ r, m_wire_elementFault x0 = some r → PureSpec Tryd.prog 39 [.agg (rTapi_Element x0)] (.int .i64 r) := (sims_G1_3_0.1 x0).2
noncomputable def m_interchangeref2_CheckSegments (x0 : List Tapi_Segment) : Option (Int) := (sims_G1_3_0.2 x0).1
theorem spec_interchangeref2_CheckSegments (x0 : List Tapi_Segment) : ∀ r, m_interchangeref2_CheckSegments x0 = some r → PureSpec Tryd.prog 25 [.slice (List.map rTapi_Segment x0)] (.int .i64 r) := (sims_G1_3_0.2 x0).2

def sc_wire_CheckSegments_L1 : SC :=
  (.seq (.reg [.r 29 (.bin .lss (.t 28) (.t 27))])
  (.seq (.cond (.t 29)
    .skip
    (.exit 2))
  (.seq (.block 3 (.seq (.reg [.r 30 (.idx 1 (.t 26) (.t 28)),
       .o 31 (.ldA 1 (.t 30)),
       .w 6 (.boxM (.c (.agg [.nils]))),
       .w 0 (.st 1 (.t 6) (.t 31))])
    (.seq (.reg [.o 32 (.ldA 1 (.t 6)),
       .c 33 (.f 39) [.t 32],
       .r 7 (.mv (.t 33))])
    (.seq (.reg [.r 34 (.mv (.t 7)),
       .r 35 (.bin .neq (.t 34) (.c (.d (.int .i64 0))))])
    (.cond (.t 35)
      (.seq (.reg [.r 36 (.mv (.t 7)),
         .r 2 (.mv (.t 36))])
      .ret)
      .skip)))))
  (.reg [.r 37 (.bin .add (.t 28) (.c (.d (.int .i64 1)))),
     .r 28 (.mv (.t 37))]))))
def sc_wire_CheckSegments_B1 : SC := .block 2 (.loop sc_wire_CheckSegments_L1)
def sc_wire_CheckSegments_L2 : SC :=
  (.seq (.reg [.r 14 (.bin .lss (.t 13) (.t 12))])
  (.seq (.cond (.t 14)
    .skip
    (.exit 0))
  (.seq (.block 1 (.seq (.reg [.r 15 (.idx 2 (.t 11) (.t 13)),
       .o 16 (.ldA 2 (.t 15)),
       .w 4 (.boxM (.c (.agg [.d (.str []), .nils]))),
       .w 0 (.st 2 (.t 4) (.t 16))])
    (.seq (.seq (.reg [.r 17 (.fld 0 (.t 4)),
       .o 18 (.ld1 (.t 17)),
       .c 19 (.f 38) [.t 18],
       .r 20 (.not (.t 19))])
    (.cond (.t 20)
      (.seq (.reg [.r 2 (.mv (.c (.d (.int .i64 5))))])
      .ret)
      .skip))
    (.seq (.seq (.reg [.r 21 (.fld 1 (.t 4)),
       .o 22 (.ld1 (.t 21)),
       .r 23 (.len (.t 22)),
       .r 24 (.bin .gtr (.t 23) (.c (.d (.int .i64 50))))])
    (.cond (.t 24)
      (.seq (.reg [.r 2 (.mv (.c (.d (.int .i64 2))))])
      .ret)
      .skip))
    (.seq (.reg [.r 25 (.fld 1 (.t 4)),
       .o 26 (.ld1 (.t 25)),
       .r 27 (.len (.t 26)),
       .r 28 (.mv (.c (.d (.int .i64 0))))])
    sc_wire_CheckSegments_B1)))))
  (.reg [.r 38 (.bin .add (.t 13) (.c (.d (.int .i64 1)))),
     .r 13 (.mv (.t 38))]))))
def sc_wire_CheckSegments_B2 : SC := .block 0 (.loop sc_wire_CheckSegments_L2)
/-- interchange/wire.CheckSegments -/
def sc_wire_CheckSegments : SC :=
  (.seq (.reg [.r 2 (.mv (.c (.d (.int .i64 0))))])
  (.seq (.seq (.reg [.r 8 (.mv (.t 0)),
     .r 9 (.len (.t 8)),
     .r 10 (.bin .gtr (.t 9) (.c (.d (.int .i64 2000))))])
  (.cond (.t 10)
    (.seq (.reg [.r 2 (.mv (.c (.d (.int .i64 2))))])
    .ret)
    .skip))
  (.seq (.seq (.reg [.r 11 (.mv (.t 0)),
     .r 12 (.len (.t 11)),
     .r 13 (.mv (.c (.d (.int .i64 0))))])
  sc_wire_CheckSegments_B2)
  (.seq (.reg [.r 2 (.mv (.c (.d (.int .i64 0))))])
  .ret))))
theorem fit_wire_CheckSegments : fits Tryd.prog 21 Tryd.f21 sc_wire_CheckSegments [.t 2] 1 = true := by kernel_rfl

set_option maxRecDepth 100000 in
set_option maxHeartbeats 40000000 in
noncomputable def sims_G1_4_0 : (∀ (x0 : List Tapi_Segment), {m : Option (Int) // ∀ r, m = some r → PureSpec Tryd.prog 21 [.slice (List.map rTapi_Segment x0)] (.int .i64 r)}) := by
  (intro x0; apply Subtype.mk; intro r hm; apply pure_walk Tryd.func21 fit_wire_CheckSegments; unfold sc_wire_CheckSegments)
  repeat' (first | with_reducible refine W_seq ?_ | with_reducible refine W_reg ?_ | with_reducible refine W_block ?_ | with_reducible refine W_skip ?_ | with_reducible refine W_ret ?_ | with_reducible refine W_exit ?_ | with_reducible refine O_nil ?_ | with_reducible refine K_seq ?_ | with_reducible refine K_seqE ?_ | with_reducible refine K_seqR ?_ | with_reducible refine K_block ?_ | with_reducible refine K_blockR ?_ | with_reducible refine O_o2r ?_ | ((with_reducible apply O_idxr hm); (iterate 2 (simp only [push_cast, seval]; rfl)); (intro _; rfl); intro e hm) | ((with_reducible apply O_r); (simp only [push_cast, seval]; rfl); (first | exact trivial)) | ((with_reducible apply O_cF hm); (simp only [push_cast, seval]; rfl); (first | apply spec_kit_IsTag _ | apply spec_wire_elementFault _); (any_goals ((repeat' (first | rfl)); done)); intro x hm) | ((with_reducible apply O_w); (simp only [push_cast, seval]; rfl); (first | exact trivial)) | ((with_reducible apply S_condB hm); (simp only [push_cast, seval]; rfl); intro hm; rotate_left; intro hm) | ((with_reducible apply K_endS hm); (focus (simp only [resOf, resL, RV.get, push_cast, seval]; rfl)); (focus ((repeat' (first | rfl)); done))) | ((with_reducible apply K_leave hm); intro r hm) | ((with_reducible apply K_leaveR hm); intro r hm) | ((apply S_loopY (b := 2) (X := sc_wire_CheckSegments_B1) (x := sc_wire_CheckSegments_L1) rfl (fun (c : SV × SV × SV × SV × SV) (s : Int) => st [(11, c.1), (12, c.2.1), (13, c.2.2.1), (26, c.2.2.2.1), (27, c.2.2.2.2), (28, .d (.int .i64 s))] []) (c := (_, _, _, _, _)) (s0 := _) hm); (focus (first | (dsimp only; done))); (with_reducible refine Then.mk ?_ ?_)) | ((apply S_loopY (b := 0) (X := sc_wire_CheckSegments_B2) (x := sc_wire_CheckSegments_L2) rfl (fun (c : SV × SV) (s : Int) => st [(11, c.1), (12, c.2), (13, .d (.int .i64 s))] []) (c := (_, _)) (s0 := _) hm); (focus (first | (dsimp only; done))); (with_reducible refine Then.mk ?_ ?_)) | ((apply K_next (s' := _) hm); (focus (first | (dsimp only; done)))) | ((apply K_brk (s' := _) hm); (focus (first | (dsimp only; done)))) | (((with_reducible apply K_brkR hm); intro r hm)) | (((with_reducible apply LoopB.of); (focus (first | (dsimp only; done))); (focus ((intro _; repeat' (first | with_reducible exact impC_end | with_reducible refine impC_seq ?_ | with_reducible refine impC_block ?_ | ((with_reducible refine impC_rnd ?_); intro _) | ((with_reducible refine impC_brk ?_); intro _))))); (intro s o hm; first | unfold sc_wire_CheckSegments_L1 | unfold sc_wire_CheckSegments_L2); rotate_left; intro s hm)) | (((apply imp_stT; (repeat' (first | with_reducible exact keepT_nil | with_reducible exact keepC_nil | with_reducible apply keepT_cons | ((with_reducible apply svle_eq); (focus (first | (simp only [push_cast, seval]; rfl))); (focus ((repeat' (first | rfl)); done))))); done))))
noncomputable def m_wire_CheckSegments (x0 : List Tapi_Segment) : Option (Int) := (sims_G1_4_0 x0).1
theorem spec_wire_CheckSegments (x0 : List Tapi_Segment) : ∀ r, m_wire_CheckSegments x0 = some r → PureSpec Tryd.prog 21 [.slice (List.map rTapi_Segment x0)] (.int .i64 r) := (sims_G1_4_0 x0).2

end Go.Proofs.YtfbhhhghjehjjaaDoor

/-
  A row that a call has made, as data.
-/
namespace Go.Proofs.YtfbhhhghjehjjaaDoor
set_option linter.unusedSimpArgs false
set_option linter.unusedVariables false
open Go.RowKit Go.Lib
theorem dR_toDVs : ∀ (l : List DV), SV.toDVs (dR l) = some l
  | [] => rfl
  | d :: l => by
    have ih := dR_toDVs l
    simp only [dR, List.map_cons, SV.toDVs, SV.toDV] at ih ⊢
    rw [ih]
end Go.Proofs.YtfbhhhghjehjjaaDoor

/-
  Calls whose result is an owned slice.
-/
namespace Go.Proofs.YtfbhhhghjehjjaaDoor
set_option linter.unusedSimpArgs false
set_option linter.unusedVariables false
open Go.RowKit Go.Lib

theorem dR_flat : ∀ (rows : List (List DV)), (rows.map dR).flatten = dR rows.flatten
  | [] => rfl
  | r :: rows => by
    have ih := dR_flat rows
    simp only [dR, List.map_cons, List.flatten_cons, List.map_append] at ih ⊢
    rw [ih]
end Go.Proofs.YtfbhhhghjehjjaaDoor

/-
  Calls whose result is an owned slice and a number.
-/
namespace Go.Proofs.YtfbhhhghjehjjaaDoor
set_option linter.unusedSimpArgs false
set_option linter.unusedVariables false
open Go.RowKit Go.Lib

theorem ownsRow_le {w : World} {n m e s k : Nat} {v : Value} {xs : List Value} (h : n ≤ m) (ho : w.ownsRow m e s v k xs) : w.ownsRow n e s v k xs := by
  refine ⟨ho.1, ?_⟩
  rcases ho.2 with hn | ⟨g, cap, cur, hv, hb, rest⟩
  · exact .inl hn
  · exact .inr ⟨g, cap, cur, hv, Nat.le_trans h hb, rest⟩
/-- A contract whose result is an owned slice and a number, out of what the kit says of the call. -/
theorem own_spec2 {P : Program} {f : FuncId} {args : List DV} {rows : List (List DV)} {size e : Nat} {n : Int} (hcall : callable P f = true) (hall : ∀ r ∈ rows, r.length = size)
    (h : ∀ (w : World) (M : Nat → Prop) (vs : List Value), (∀ b, M b → b < w.heap.size) → RepL w M args vs → Good w → Calls P f vs.toArray w fun ev w' => ∃ v news, ev = .returned (.tuple #[v, .int .i64 n]) ∧ w'.ownsRow w.heap.size e size v rows.length news ∧ RepL w M rows.flatten news ∧ (∀ u ∈ news, u.oneCell' = true) ∧ Below w.heap.size w w') :
    FSpec P f (args.map .d) (.tup [.own (.sl e (List.replicate size .sh)) (.slice rows), .d (.int .i64 n)]) (args.map .d) := by
  refine ⟨hcall, fun w M vs F hM hF hn hv hg _ => ?_⟩
  have hno : SV.noOwns (args.map SV.d) = true := toDVs_noOwns _ _ (dR_toDVs args)
  obtain ⟨hS, rfl⟩ := RepGL.to_S _ _ _ hno hv
  have hR := RepSL.toDVs _ _ _ hS (dR_toDVs args)
  refine (h w _ vs (fun b hb => by rcases hb with hb | hb; exact (hM b hb).1; cases hb) hR hg).mono ?_
  rintro ev w' ⟨v, news, rfl, ho, hnews, h1, hB⟩
  have hfresh : ∀ b ∈ blkL v, w.heap.size ≤ b ∧ b < w'.heap.size := by
    intro b hb
    rcases ho.2 with ⟨rfl, _⟩ | ⟨g, cap, cur, rfl, hb2, hg, _⟩
    · simp [blkL, blk] at hb
    · simp [blkL, blk] at hb
      subst hb
      exact ⟨hb2, (Array.getElem?_eq_some_iff.1 hg).1⟩
  have hext : Ext w (fun b => M b ∨ b ∈ ([] : List Nat)) w' (fun b => M b ∨ b ∈ [] ++ blkL v) := ⟨hB.size, fun b hb hm => ⟨hB.block b hb, fun hm' => by
    rcases hm' with hm' | hm'
    · exact hm (.inl hm')
    · have := (hfresh b (by simpa using hm')).1; omega⟩⟩
  refine ⟨_, [], blkL v, rfl, RepGL.of_S _ _ (RepSL.of_d (hR.ext hext)), ?_, ?_, ?_, Chg.of_below hB⟩
  · unfold RepG
    refine ⟨[v, .int .i64 n], rfl, ?_⟩
    simp only [RepGL]
    refine ⟨v, _, blkL v, [], rfl, (List.append_nil _).symm, ?_, _, _, [], [], rfl, rfl, ?_, rfl, rfl⟩
    rotate_left
    · unfold RepG; exact ⟨rfl, by simp only [RepS, Rep]⟩
    unfold RepG RepO
    refine ⟨rows, news, [], rfl, ⟨by simpa using ho.1, ?_⟩, h1, by simpa using hall, ?_, by simp⟩
    · rcases ho.2 with hn | ⟨g, cap, cur, hv, hb, rest⟩
      · exact .inl hn
      · simp only [List.length_replicate]
        exact .inr ⟨g, cap, cur, hv, Nat.zero_le _, rest⟩
    · refine (ownRows_iff (κ := κ0) (by simpa using hall)).1 ?_
      have e1 : rows.map (ownR (List.replicate size .sh)) = rows.map dR := List.map_congr_left fun r hr => by
        have := ownR_sh (row := fun _ : Unit => r) (n := size) (fun _ => hall r hr) [()]
        simpa [vrow] using this
      rw [e1, dR_flat]
      exact RepGL.of_S _ _ (RepSL.of_d (hnews.ext hext))
  · cases hv' : blk v with
    | none => simp [blkL, hv']
    | some b => simp [blkL, hv']
  · intro b hb
    have := hfresh b (by simpa using hb)
    exact ⟨.inr this.1, this.2⟩

end Go.Proofs.YtfbhhhghjehjjaaDoor

/-
  wire.Heading, by hand: the one place where bytes of a constant string are appended to.
-/
namespace Go.Proofs.YtfbhhhghjehjjaaDoor
set_option linter.unusedSimpArgs false
set_option linter.unusedVariables false
open Go.RowKit Go.Shelf Go.Lib

def hbytes (x : Tapi_Marks) : List UInt8 := [77, 82, 75, x.fElement, x.fPart, x.fRepeat, if x.fEscape = 0 then 32 else x.fEscape, x.fEnd]
noncomputable def m_wire_Heading (x0 : Tapi_Marks) : Option (List UInt8 × Int) := (m_wire_CheckMarks x0).bind fun c => if c = 0 then some (hbytes x0, 0) else some ([], c)
theorem alloc_row (w : World) (C : Array Value) (e : TypeId) (m : Nat × Nat) (j : Nat) (u : Value) (h : C.toList[j]? = some u) : (w.alloc (.cells C e m)).cell? ((⟨w.heap.size, 0, none⟩ : Addr).add j) = some u := by
  have hh : (w.alloc (.cells C e m)).heap[w.heap.size]? = some (.cells C e m) := by
    show (w.heap.push _)[w.heap.size]? = _
    simp
  rw [Addr.add_lit]
  unfold World.cell?
  rw [hh]
  simpa using h
theorem alloc_row2 (w : World) (o : Obj) (C : Array Value) (e : TypeId) (m : Nat × Nat) (j : Nat) (u : Value) (h : C.toList[j]? = some u) : ((w.alloc o).alloc (.cells C e m)).cell? ((⟨w.heap.size + 1, 0, none⟩ : Addr).add j) = some u := by
  have hs : (w.alloc o).heap.size = w.heap.size + 1 := by show (w.heap.push _).size = _; rw [Array.size_push]
  have := alloc_row (w.alloc o) C e m j u h
  rwa [hs] at this
theorem esc_t (b : UInt8) (h : ((b.toNat : Int) == 0) = true) : (if b = 0 then (32 : UInt8) else b) = 32 := by
  have h1 : (b.toNat : Int) = 0 := by simpa using h
  have h2 : b = 0 := UInt8.toNat_inj.1 (by show b.toNat = 0; omega)
  rw [if_pos h2]
theorem esc_f (b : UInt8) (h : ((b.toNat : Int) == 0) = false) : (if b = 0 then (32 : UInt8) else b) = b := by
  rw [if_neg]
  rintro rfl
  simp at h
set_option maxRecDepth 100000 in
theorem inf5 : ∃ i z, Tryd.prog.info? 5 = some i ∧ i.zero = some z ∧ i.size = 1 ∧ i.bytes = 1 ∧ z.cells.size = 1 := ⟨_, _, rfl, rfl, rfl, rfl, rfl⟩
set_option maxRecDepth 100000 in
set_option maxHeartbeats 4000000 in
theorem heading_calls (x0 : Tapi_Marks) (r : List UInt8 × Int) (hr : m_wire_Heading x0 = some r) (w : World) (M : Nat → Prop) (vs : List Value) (hM : ∀ b, M b → b < w.heap.size) (hv : RepL w M [.agg (rTapi_Marks x0)] vs) (hg : Good w) :
    Calls Tryd.prog 16 vs.toArray w fun ev w' => ∃ v, ev = .returned (.tuple #[v, .int .i64 r.2]) ∧ w'.ownsRow w.heap.size 5 1 v r.1.length (r.1.map fun b => (b.toNat : Int) |> Value.int .u8) ∧ Below w.heap.size w w' := by
  unfold m_wire_Heading at hr
  cases hc : m_wire_CheckMarks x0 with
  | none => rw [hc] at hr; cases hr
  | some c =>
  rw [hc] at hr
  simp only [Option.bind_some] at hr
  have hp := spec_wire_CheckMarks x0 c hc
  simp only [RepL, Rep, rTapi_Marks] at hv
  obtain ⟨u, us, rfl, ⟨vs, rfl, -, u0, us0, rfl, rfl, u1, us1, rfl, rfl, u2, us2, rfl, rfl, u3, us3, rfl, rfl, u4, us4, rfl, rfl, rfl⟩, rfl⟩ := hv
  have hcon := hp.2 (w.alloc (.cells #[.int .u8 x0.fElement.toNat, .int .u8 x0.fPart.toNat, .int .u8 x0.fRepeat.toNat, .int .u8 x0.fEscape.toNat, .int .u8 x0.fEnd.toNat] 24)) M _ (fun b hb => by have := hM b hb; show b < (w.heap.push _).size; rw [Array.size_push]; omega) (by simp only [RepL, Rep, rTapi_Marks]; exact ⟨_, _, rfl, ⟨_, rfl, by simp [Value.oneCell'], _, _, rfl, rfl, _, _, rfl, rfl, _, _, rfl, rfl, _, _, rfl, rfl, _, _, rfl, rfl, rfl⟩, rfl⟩) (hg.below ((Below.refl _ w).alloc (Nat.le_refl _) _))
  have kc := fun (w : World) (C : Array Value) (n c : Nat) => Lib.run_convert_bytes_const (P := Tryd.prog) w 22 5 C n c Tryd.underlying22 Tryd.underlying5
  have hsz : (w.alloc (.cells #[.int .u8 x0.fElement.toNat, .int .u8 x0.fPart.toNat, .int .u8 x0.fRepeat.toNat, .int .u8 x0.fEscape.toNat, .int .u8 x0.fEnd.toNat] 24)).heap.size = w.heap.size + 1 := by show (w.heap.push _).size = _; rw [Array.size_push]
  have hcell : ∀ k, (w.alloc (.cells #[.int .u8 x0.fElement.toNat, .int .u8 x0.fPart.toNat, .int .u8 x0.fRepeat.toNat, .int .u8 x0.fEscape.toNat, .int .u8 x0.fEnd.toNat] 24)).cell? ⟨w.heap.size, k, none⟩ = (#[.int .u8 x0.fElement.toNat, .int .u8 x0.fPart.toNat, .int .u8 x0.fRepeat.toNat, .int .u8 x0.fEscape.toNat, .int .u8 x0.fEnd.toNat] : Array Value)[k]? := by
    intro k
    have hh : (w.alloc (.cells #[.int .u8 x0.fElement.toNat, .int .u8 x0.fPart.toNat, .int .u8 x0.fRepeat.toNat, .int .u8 x0.fEscape.toNat, .int .u8 x0.fEnd.toNat] 24)).heap[w.heap.size]? = some (.cells #[.int .u8 x0.fElement.toNat, .int .u8 x0.fPart.toNat, .int .u8 x0.fRepeat.toNat, .int .u8 x0.fEscape.toNat, .int .u8 x0.fEnd.toNat] 24) := by
      show (w.heap.push _)[w.heap.size]? = _
      simp
    unfold World.cell?
    rw [hh]
    rfl
  by_cases h0 : c = 0
  · subst h0
    obtain ⟨i0, z, hi, hz0, hz1, hz2, hzs⟩ := inf5
    go_enter Tryd.func16, Tryd.ntmps16
    go_wp2_with (first | (go_at_call 11; refine hcon.mono ?_; rintro e w' ⟨v, rfl, hrep, hB⟩; simp only [Rep] at hrep; subst hrep; have c0 := (hB.cell (p := ⟨w.heap.size, 0, none⟩) (by rw [hsz]; exact Nat.lt_succ_self _)).trans (hcell 0); have c1 := (hB.cell (p := ⟨w.heap.size, 1, none⟩) (by rw [hsz]; exact Nat.lt_succ_self _)).trans (hcell 1); have c2 := (hB.cell (p := ⟨w.heap.size, 2, none⟩) (by rw [hsz]; exact Nat.lt_succ_self _)).trans (hcell 2); have c3 := (hB.cell (p := ⟨w.heap.size, 3, none⟩) (by rw [hsz]; exact Nat.lt_succ_self _)).trans (hcell 3); have c4 := (hB.cell (p := ⟨w.heap.size, 4, none⟩) (by rw [hsz]; exact Nat.lt_succ_self _)).trans (hcell 4); dsimp at c0 c1 c2 c3 c4; have d0 := fun o => Lib.cell?_alloc_marked (W := w') o c0; have d1 := fun o => Lib.cell?_alloc_marked (W := w') o c1; have d2 := fun o => Lib.cell?_alloc_marked (W := w') o c2; have d3 := fun o => Lib.cell?_alloc_marked (W := w') o c3; have d4 := fun o => Lib.cell?_alloc_marked (W := w') o c4) | (at_builtin; refine wpList_append_grows _ rfl _ _ 22 rfl 5 i0 z 1 1 Tryd.underlying22 hi hz0 hz1 hz2 hzs (by decide) _ 3 3 [.int .u8 77, .int .u8 82, .int .u8 75] rfl (fun h => by cases h) rfl (by rintro b ⟨⟩ j u hj; exact Lib.cell?_alloc_marked _ (alloc_row _ _ _ _ j u hj)) _ 5 _ [.int .u8 x0.fElement.toNat, .int .u8 x0.fPart.toNat, .int .u8 x0.fRepeat.toNat, .int .u8 32, .int .u8 x0.fEnd.toNat] rfl rfl (by intro j u hj; exact alloc_row2 _ _ _ _ _ j u hj) (by simp [Value.oneCell']) (by decide) (by decide) (by decide) ?_) | (at_builtin; refine wpList_append_grows _ rfl _ _ 22 rfl 5 i0 z 1 1 Tryd.underlying22 hi hz0 hz1 hz2 hzs (by decide) _ 3 3 [.int .u8 77, .int .u8 82, .int .u8 75] rfl (fun h => by cases h) rfl (by rintro b ⟨⟩ j u hj; exact Lib.cell?_alloc_marked _ (alloc_row _ _ _ _ j u hj)) _ 5 _ [.int .u8 x0.fElement.toNat, .int .u8 x0.fPart.toNat, .int .u8 x0.fRepeat.toNat, .int .u8 x0.fEscape.toNat, .int .u8 x0.fEnd.toNat] rfl rfl (by intro j u hj; exact alloc_row2 _ _ _ _ _ j u hj) (by simp [Value.oneCell']) (by decide) (by decide) (by decide) ?_))
    · intro v' w2 hown hgrow
      have he : ((x0.fEscape.toNat : Int) == 0) = true := by assumption
      rw [if_pos trivial] at hr
      cases hr
      have hW : Below w.heap.size w w' := ((Below.refl _ w).alloc (Nat.le_refl _) _).trans (hB.mono (by rw [hsz]; omega))
      have hle := hW.size
      have hB2 : Below w.heap.size w w2 := ((hW.alloc hle _).alloc (by show _ ≤ (w'.heap.push _).size; rw [Array.size_push]; omega) _).grown hgrow (by show _ ≤ ((w'.heap.push _).push _).size; rw [Array.size_push, Array.size_push]; omega) (by intro k hk; cases hk)
      go_wp2
      go_ret2
      refine ⟨_, rfl, ?_, hB2⟩
      have h5 := esc_t _ he
      simp only [hbytes, h5]
      exact ownsRow_le (show w.heap.size ≤ w'.heap.size + 1 + 1 by omega) hown
    · intro v' w2 hown hgrow
      have he : ((x0.fEscape.toNat : Int) == 0) = false := by assumption
      rw [if_pos trivial] at hr
      cases hr
      have hW : Below w.heap.size w w' := ((Below.refl _ w).alloc (Nat.le_refl _) _).trans (hB.mono (by rw [hsz]; omega))
      have hle := hW.size
      have hB2 : Below w.heap.size w w2 := ((hW.alloc hle _).alloc (by show _ ≤ (w'.heap.push _).size; rw [Array.size_push]; omega) _).grown hgrow (by show _ ≤ ((w'.heap.push _).push _).size; rw [Array.size_push, Array.size_push]; omega) (by intro k hk; cases hk)
      go_wp2
      go_ret2
      refine ⟨_, rfl, ?_, hB2⟩
      have h5 := esc_f _ he
      simp only [hbytes, h5]
      exact ownsRow_le (show w.heap.size ≤ w'.heap.size + 1 + 1 by omega) hown
  · go_enter Tryd.func16, Tryd.ntmps16
    go_wp2_with (go_at_call 11; refine hcon.mono ?_; rintro e w' ⟨v, rfl, hrep, hB⟩; simp only [Rep] at hrep; subst hrep)
    rw [if_neg h0] at hr
    cases hr
    go_ret2
    exact ⟨_, rfl, ⟨rfl, .inl ⟨rfl, rfl⟩⟩, ((Below.refl _ w).alloc (Nat.le_refl _) _).trans (hB.mono (by rw [hsz]; omega))⟩
theorem fspec_wire_Heading (x0 : Tapi_Marks) : ∀ r, m_wire_Heading x0 = some r → FSpec Tryd.prog 16 ([.agg (rTapi_Marks x0)].map .d) (.tup [.own (.sl 5 (List.replicate 1 .sh)) (.slice (List.map rowY r.1)), .d (.int .i64 r.2)]) ([.agg (rTapi_Marks x0)].map .d) := by
  intro r hr
  refine own_spec2 (by kernel_rfl) (by intro r hr; obtain ⟨b, _, rfl⟩ := List.mem_map.1 hr; rfl) (fun w M vs hM hv hg => ?_)
  refine (heading_calls x0 r hr w M vs hM hv hg).mono ?_
  rintro ev w' ⟨v, rfl, ho, hB⟩
  refine ⟨v, _, rfl, by rw [List.length_map]; exact ho, ?_, ?_, hB⟩
  · clear ho hr
    induction r.1 with
    | nil => simp [RepL]
    | cons b l ih => simp only [List.map_cons, List.flatten_cons, rowY, List.cons_append, List.nil_append, RepL, Rep]; exact ⟨_, _, rfl, rfl, ih⟩
  · intro u hu
    obtain ⟨b, _, rfl⟩ := List.mem_map.1 hu
    rfl
theorem spec_wire_Heading (x0 : Tapi_Marks) : ∀ r, m_wire_Heading x0 = some r → PureSpec Tryd.prog 16 [.agg (rTapi_Marks x0)] (.tup [.slice (List.map rowY r.1), .int .i64 r.2]) := fun r hr => (fspec_wire_Heading x0 r hr).pure rfl
end Go.Proofs.YtfbhhhghjehjjaaDoor

/-
  DERIVED: THE SHELF's CONTRACTS AT THIS DUMP, IN PLAIN WORDS (tools/lay-plain.mjs out of 'YtfbhhhghjehjjaaDoorShelfU.lean', which tools/lay-shelf.mjs wrote): THE SAME DECLARATIONS UNDER THE SAME NAMES: 'import', 'namespace', 'open', 'def', 'theorem' AND NOTHING ELSE: no command of the shelf's: FOR A HAND-IN. Each laying: the table of numbers ('.._ren') and one theorem, a field a fact of the dump's own or the kernel's comparison; each contract: ONE APPLICATION.
-/
namespace Go.Proofs
open Go.Shelf
def Tryd.lays32_ren : Go.Shelf.Ren := ⟨fun | 32 => 72 | 49 => 86 | n => n, fun | 30 => 22 | 21 => 21 | 3 => 3 | 0 => 0 | 5 => 5 | 4 => 4 | 33 => 107 | 66 => 118 | 25 => 113 | 69 => 121 | 68 => 120 | n => n, fun | 2 => 1 | 3 => 2 | n => n⟩
theorem Tryd.lays32 : Go.Proofs.Lays7.n32 Tryd.prog Tryd.lays32_ren := {
  mixed := by kernel_rfl
  f32 := Tryd.func72.trans (congrArg some (by kernel_rfl))
  f49 := Tryd.func86.trans (congrArg some (by kernel_rfl))
  t0 := Tryd.underlying0
  a0 := Tryd.isAgg0
  z0 := Tryd.sizeOf0
  v0 := Tryd.zeroValue0
  i0 := by kernel_rfl
  t3 := Tryd.underlying3
  a3 := Tryd.isAgg3
  z3 := Tryd.sizeOf3
  v3 := Tryd.zeroValue3
  i3 := by kernel_rfl
  t4 := Tryd.underlying4
  a4 := Tryd.isAgg4
  z4 := Tryd.sizeOf4
  v4 := Tryd.zeroValue4
  i4 := by kernel_rfl
  t5 := Tryd.underlying5
  a5 := Tryd.isAgg5
  z5 := Tryd.sizeOf5
  v5 := Tryd.zeroValue5
  i5 := by kernel_rfl
  t21 := Tryd.underlying21
  a21 := Tryd.isAgg21
  z21 := Tryd.sizeOf21
  v21 := Tryd.zeroValue21
  i21 := by kernel_rfl
  t25 := Tryd.underlying113
  a25 := Tryd.isAgg113
  z25 := Tryd.sizeOf113
  v25 := Tryd.zeroValue113
  i25 := by kernel_rfl
  t30 := Tryd.underlying22
  a30 := Tryd.isAgg22
  z30 := Tryd.sizeOf22
  v30 := Tryd.zeroValue22
  i30 := by kernel_rfl
  t33 := Tryd.underlying107
  a33 := Tryd.isAgg107
  z33 := Tryd.sizeOf107
  v33 := Tryd.zeroValue107
  i33 := by kernel_rfl
  t66 := Tryd.underlying118
  a66 := Tryd.isAgg118
  z66 := Tryd.sizeOf118
  t68 := Tryd.underlying120
  a68 := Tryd.isAgg120
  z68 := Tryd.sizeOf120
  v68 := Tryd.zeroValue120
  i68 := by kernel_rfl
  t69 := Tryd.underlying121
  a69 := Tryd.isAgg121
  z69 := Tryd.sizeOf121
  v69 := Tryd.zeroValue121
  i69 := by kernel_rfl
  g2 := by kernel_rfl
  g3 := by kernel_rfl }
end Go.Proofs

/-
  bytes.IndexAny at bytes of any kind, and a set of two or more marks that are ASCII (the frame of the proofs is the shelf's for strings.IndexAny).
-/
namespace Go.Proofs.YtfbhhhghjehjjaaDoor
set_option linter.unusedSimpArgs false
set_option linter.unusedVariables false
open Go.RowKit Go.Shelf Go.Lib

/-- The bytes of s in the cells from ⟨b, off⟩ on. -/
def BAt (s : ByteArray) (b off : Nat) (w : World) : Prop := ∀ j, j < s.size → w.cell? ⟨b, off + j, none⟩ = some (.int .u8 (s.get! j).toNat)
theorem BAt.below {s : ByteArray} {b off : Nat} {w w' : World} (h : BAt s b off w) (hb : Below w.heap.size w w') : BAt s b off w' :=
  fun j hj => by rw [hb.cell (block_lt_of_cell (h j hj))]; exact h j hj
theorem BAt.tail {s : ByteArray} {b off : Nat} {w : World} (h : BAt s b off w) (n : Nat) : BAt (s.extract n s.size) b (off + n) w :=
  fun j hj => by
    rw [Lib.tail_size] at hj
    rw [Lib.tail_get!, Nat.add_assoc]
    exact h (n + j) (by omega)
theorem dec_tail (s : ByteArray) (pos : Nat) (h : pos < s.size) : Lib.decodeGo (s.extract pos s.size) = Utf8.decode s pos := by
  unfold Lib.decodeGo
  rw [if_neg (by rw [Lib.tail_size]; omega), Lib.tail_decode, Nat.add_zero]
theorem by_should (n : Int) (w : World) : Calls Tryd.prog 69 #[.int .i64 n] w fun e w' => e = .returned (.bool (decide (8 < n))) ∧ w' = w := by
  have t3 := Tryd.underlying3; have a3 := Tryd.isAgg3; have z3 := Tryd.sizeOf3; have v3 := Tryd.zeroValue3
  have t4 := Tryd.underlying4; have a4 := Tryd.isAgg4; have z4 := Tryd.sizeOf4; have v4 := Tryd.zeroValue4
  go_enter Tryd.func69, Tryd.ntmps69
  go_wp2
  go_ret
  exact ⟨rfl, rfl⟩
theorem set_zero : ∀ w, (zeroValue 104).run Tryd.prog w = .ok (.agg (Array.replicate 256 (.bool false))) w := (zero_of_info (P := Tryd.prog) (t := 104) (n := 256) (by kernel_rfl)).1
theorem set_size : (Tryd.prog.info? 104).map (·.size) = some 256 := by kernel_rfl

set_option maxHeartbeats 4000000 in
set_option maxRecDepth 1000000 in
theorem by_make (chars : ByteArray) (w : World) (hs : chars.size < 4294967281) (hascii : ∀ (j : Nat) b, chars.data.toList[j]? = some b → b.toNat < 128) :
    Calls Tryd.prog 70 #[.string chars] w fun e w' => e = .returned (.tuple #[.agg (Lib.setCells chars.data.toList), .bool true]) ∧ w' = w.alloc (.cells (Lib.setCells chars.data.toList) 104) := by
  have HA : Aside (∀ (j : Nat) b, chars.data.toList[j]? = some b → b.toNat < 128) := hascii
  clear hascii
  have hv116 := set_zero
  have hi116 := set_size
  have t3 := Tryd.underlying3; have a3 := Tryd.isAgg3; have z3 := Tryd.sizeOf3; have v3 := Tryd.zeroValue3
  have t4 := Tryd.underlying4; have a4 := Tryd.isAgg4; have z4 := Tryd.sizeOf4; have v4 := Tryd.zeroValue4
  have t5 := Tryd.underlying5; have a5 := Tryd.isAgg5; have z5 := Tryd.sizeOf5; have v5 := Tryd.zeroValue5
  have t9 := Tryd.underlying9; have a9 := Tryd.isAgg9; have z9 := Tryd.sizeOf9; have v9 := Tryd.zeroValue9
  have t116 := Tryd.underlying104
  go_enter Tryd.func70, Tryd.ntmps70
  go_wp2
  rw [← Lib.setCells_nil]
  go_loopg [4] chars.size (fun g s4 wx => ∃ i : Nat, i + g = chars.size ∧ s4 = .int .i64 i ∧ wx = w.alloc (.cells (Lib.setCells (chars.data.toList.take i)) 104))
  case atStart => exact ⟨0, by omega, rfl, rfl⟩
  case round =>
    obtain ⟨i, hig, rfl, rfl⟩ := hrel
    cases gk with
    | zero =>
      obtain rfl : i = chars.size := by omega
      have hiz : ¬ ((chars.size : Int) < (chars.size : Int)) := by omega
      rw [show chars.data.toList.take chars.size = chars.data.toList from List.take_of_length_le (by rw [← Lib.size_eq]; exact Nat.le_refl _)]
      have hld := run_loadVar_new (P := Tryd.prog) w 104 (Lib.setCells chars.data.toList) 256 4 t116 (by rw [Lib.setCells_size]; exact hi116)
      have hsz := Lib.setCells_size chars.data.toList
      have hlc := run_loadCellsFrom_new (P := Tryd.prog) w 104 (Lib.setCells chars.data.toList) 256 hsz
      have hsc := run_storeCells_new (P := Tryd.prog) w 104 (Lib.setCells chars.data.toList) (Lib.setCells chars.data.toList) (by rw [hsz]; exact hi116) rfl (Lib.setCells_one _)
      go_wp2
      simp [go_sem, -Tryd.isAgg104, -Tryd.sizeOf104]
      simp only [Tryd.isAgg104, Tryd.sizeOf104, Result.andThen, ↓reduceIte, hlc]
      rw [Oper.upon_value]
      go_wp2
      (try simp only [Exit.inBlock, Exit.then])
      refine bodyPost_ret (v := .tuple #[.agg (Lib.setCells chars.data.toList), .bool true]) ?_ rfl ⟨rfl, rfl⟩
      rw [results_cell_tmp rfl]
      simp [asAddr, Result.andThen, hld]
    | succ g =>
      have hi : i < chars.size := by omega
      have hiz : (i : Int) < (chars.size : Int) := by omega
      obtain ⟨x, hx⟩ : ∃ x : UInt8, chars[i]'hi = x := ⟨_, rfl⟩
      have hxl : chars.data.toList[i]? = some x := by rw [← hx]; exact Lib.data_getElem? chars i hi
      have hx128 : ¬ ((128 : Int) ≤ (x.toNat : Int)) := by have := HA.out i x hxl; omega
      have hx256 : (x.toNat : Int) < 256 := by have := HA.out i x hxl; omega
      have hcell := Lib.setCells_at (chars.data.toList.take i) x
      have Hx : Aside (chars.data.toList[i]? = some x) := hxl
      clear hxl
      go_wp2
      go_roundg g
      case measure => omega
      case rel => exact ⟨i + 1, by omega, by first | rfl | simp, by rw [List.take_add_one, Hx.out]; simp only [Option.toList]; rw [Lib.setCells_snoc]⟩

set_option maxHeartbeats 2000000 in
set_option maxRecDepth 1000000 in
theorem by_has (b : Nat) (x : UInt8) (v : Bool) (w : World) (hc : w.cell? ⟨b, x.toNat, none⟩ = some (.bool v)) :
    Calls Tryd.prog 71 #[.pointer (some ⟨b, 0, none⟩), .int .u8 x.toNat] w fun e w' => e = .returned (.bool v) ∧ w' = w := by
  have hx256 : (x.toNat : Int) < 256 := by have := UInt8.toNat_lt x; omega
  have t4 := Tryd.underlying4; have a4 := Tryd.isAgg4; have z4 := Tryd.sizeOf4; have v4 := Tryd.zeroValue4
  have t5 := Tryd.underlying5; have a5 := Tryd.isAgg5; have z5 := Tryd.sizeOf5; have v5 := Tryd.zeroValue5
  have t116 := Tryd.underlying104
  go_enter Tryd.func71, Tryd.ntmps71
  go_wp2
  go_ret
  exact ⟨rfl, rfl⟩

set_option maxHeartbeats 8000000 in
set_option maxRecDepth 1000000 in
theorem by_long (s : ByteArray) (b off cap : Nat) (chars : ByteArray) (w : World) (hcap : s.size ≤ cap) (hB : BAt s b off w) (h2 : 2 ≤ chars.size) (h8 : 8 < s.size) (hs : s.size < 4294967281) (hcs : chars.size < 4294967281)
    (hascii : ∀ (j : Nat) b, chars.data.toList[j]? = some b → b.toNat < 128) :
    Calls Tryd.prog 48 #[.slice (some ⟨b, off, none⟩) s.size cap, .string chars] w fun e w' => e = .returned (.int .i64 (Lib.indexAny s.data.toList chars.data.toList)) ∧ Below w.heap.size w w' := by
  have hM := by_make chars w hcs hascii
  clear hascii
  have hemp : chars.toList.isEmpty = false := by
    rw [Lib.toList_data]
    cases h : chars.data.toList with
    | nil => have := Lib.size_eq chars; rw [h, List.length_nil] at this; omega
    | cons _ _ => rfl
  have hs1 : ((s.size : Int) == 1) = false := beq_eq_false_iff_ne.2 (by omega)
  have hn1 : ((chars.size : Int) == 1) = false := beq_eq_false_iff_ne.2 (by omega)
  have h8z : decide ((8 : Int) < (s.size : Int)) = true := decide_eq_true (by omega)
  have hi116 := set_size
  have hsc : (storeCells ⟨w.heap.size + 1, 0, none⟩ (Lib.setCells chars.data.toList).toList 0).run Tryd.prog ((w.alloc (.cells (Lib.setCells chars.data.toList) 104)).alloc (.cells Tryd.zeroCells104 104)) = .ok () ((w.alloc (.cells (Lib.setCells chars.data.toList) 104)).alloc (.cells (Lib.setCells chars.data.toList) 104)) := by
    have := run_storeCells_new (P := Tryd.prog) (w.alloc (.cells (Lib.setCells chars.data.toList) 104)) 104 Tryd.zeroCells104 (Lib.setCells chars.data.toList) (by rw [Lib.setCells_size]; exact hi116) (by rw [Lib.setCells_size]; kernel_rfl) (Lib.setCells_one _)
    simpa using this
  have hsz := Lib.setCells_size chars.data.toList
  have hcellAt : ∀ x : UInt8, ((w.alloc (.cells (Lib.setCells chars.data.toList) 104)).alloc (.cells (Lib.setCells chars.data.toList) 104)).cell? ⟨w.heap.size + 1, x.toNat, none⟩ = some (.bool (chars.data.toList.contains x)) := fun x => by
    rw [World.cell?_alloc_at _ _ _ _ (by simp), Lib.setCells_at]
  have HC : Aside (∀ x : UInt8, ((w.alloc (.cells (Lib.setCells chars.data.toList) 104)).alloc (.cells (Lib.setCells chars.data.toList) 104)).cell? ⟨w.heap.size + 1, x.toNat, none⟩ = some (.bool (chars.data.toList.contains x))) := hcellAt
  clear hcellAt
  have hbel : Below w.heap.size w ((w.alloc (.cells (Lib.setCells chars.data.toList) 104)).alloc (.cells (Lib.setCells chars.data.toList) 104)) := ((Below.refl _ _).alloc (Nat.le_refl _) _).alloc (by simp) _
  have HB : Aside (BAt s b off ((w.alloc (.cells (Lib.setCells chars.data.toList) 104)).alloc (.cells (Lib.setCells chars.data.toList) 104))) := hB.below hbel
  clear hB
  have t3 := Tryd.underlying3; have a3 := Tryd.isAgg3; have z3 := Tryd.sizeOf3; have v3 := Tryd.zeroValue3
  have t4 := Tryd.underlying4; have a4 := Tryd.isAgg4; have z4 := Tryd.sizeOf4; have v4 := Tryd.zeroValue4
  have t5 := Tryd.underlying5; have a5 := Tryd.isAgg5; have z5 := Tryd.sizeOf5; have v5 := Tryd.zeroValue5
  have t9 := Tryd.underlying9; have a9 := Tryd.isAgg9; have z9 := Tryd.sizeOf9; have v9 := Tryd.zeroValue9
  have t21 := Tryd.underlying21; have a21 := Tryd.isAgg21; have z21 := Tryd.sizeOf21; have v21 := Tryd.zeroValue21
  have t22 := Tryd.underlying22; have a22 := Tryd.isAgg22; have z22 := Tryd.sizeOf22; have v22 := Tryd.zeroValue22
  have t116 := Tryd.underlying104
  have e1 : ∀ args w, (callFunc 69 args).run Tryd.prog w = .ok (.enter 69 args) w := enters_of Tryd.func69 (by kernel_rfl) rfl
  have e2 : ∀ args w, (callFunc 70 args).run Tryd.prog w = .ok (.enter 70 args) w := enters_of Tryd.func70 (by kernel_rfl) rfl
  have e3 : ∀ args w, (callFunc 71 args).run Tryd.prog w = .ok (.enter 71 args) w := enters_of Tryd.func71 (by kernel_rfl) rfl
  go_enter Tryd.func48, Tryd.ntmps48
  go_wp2_with (first
    | (go_at_fn 69; refine (by_should _ _).mono ?_; rintro e w' ⟨rfl, hw⟩; rw [hw, h8z])
    | (go_at_fn 70; refine hM.mono ?_; rintro e w' ⟨rfl, hw⟩; rw [hw]))
  clear hM hsc
  go_loopg [62] s.size (fun g s8 wx => ∃ i : Nat, i + g = s.size ∧ s8 = .int .i64 i ∧ wx = ((w.alloc (.cells (Lib.setCells chars.data.toList) 104)).alloc (.cells (Lib.setCells chars.data.toList) 104)) ∧ Lib.NoAny s.data.toList chars.data.toList i)
  case atStart => exact ⟨0, by omega, rfl, rfl, Lib.NoAny.zero _ _⟩
  case round =>
    obtain ⟨i, hig, rfl, rfl, hno⟩ := hrel
    have HN : Aside (Lib.NoAny s.data.toList chars.data.toList i) := hno
    clear hno
    cases gk with
    | zero =>
      obtain rfl : i = s.size := by omega
      have hiz : ¬ ((s.size : Int) < (s.size : Int)) := by omega
      go_wp2
      go_ret
      exact ⟨by rw [Lib.indexAny_none (by rw [← Lib.size_eq]; exact HN.out)]; rfl, hbel⟩
    | succ g =>
      have hi : i < s.size := by omega
      have hiz : (i : Int) < (s.size : Int) := by omega
      obtain ⟨x, hx⟩ : ∃ x : UInt8, s[i]'hi = x := ⟨_, rfl⟩
      have hxl : s.data.toList[i]? = some x := by rw [← hx]; exact Lib.data_getElem? s i hi
      have hcell := HB.out i hi
      rw [show s.get! i = x by rw [← hx]; exact get_at s i hi] at hcell
      have Hx : Aside (s.data.toList[i]? = some x) := hxl
      clear hxl hx
      have hcx := HC.out x
      cases hin : chars.data.toList.contains x <;> rw [hin] at hcx
      · go_wp2_with (go_at_fn 71; refine (by_has _ x _ _ hcx).mono ?_; rintro e w' ⟨rfl, hw⟩; rw [hw])
        go_roundg g
        case measure => omega
        case rel => exact ⟨i + 1, by omega, by first | rfl | simp, rfl, HN.out.succ Hx.out hin⟩
      · go_wp2_with (go_at_fn 71; refine (by_has _ x _ _ hcx).mono ?_; rintro e w' ⟨rfl, hw⟩; rw [hw])
        go_ret
        exact ⟨by rw [Lib.indexAny_hit HN.out Hx.out hin]; rfl, hbel⟩
end Go.Proofs.YtfbhhhghjehjjaaDoor

/-
  What a decoder of UTF-8 makes of a byte that is no ASCII.
-/
namespace Go.Proofs.YtfbhhhghjehjjaaDoor
set_option linter.unusedSimpArgs false
set_option linter.unusedVariables false
open Go.RowKit Go.Shelf Go.Lib

theorem enc2 (c : Nat) (h1 : 128 ≤ c) (h2 : c < 2048) : (Utf8.encode (c : Int)).size = 2 ∧ 128 ≤ ((Utf8.encode (c : Int)).get! 0).toNat := by
  have hv : Utf8.valid (c : Int) = true := by unfold Utf8.valid; simp; omega
  unfold Utf8.encode
  simp only [hv, if_true, Int.toNat_natCast]
  rw [if_neg (by omega), if_pos (by omega)]
  refine ⟨rfl, ?_⟩
  show 128 ≤ (UInt8.ofNat (0xC0 + c / 64)).toNat
  rw [UInt8.toNat_ofNat_of_lt' (by show 0xC0 + c / 64 < 256; omega)]
  omega
theorem enc3 (c : Nat) (h1 : 2048 ≤ c) (h2 : c < 65536) (hv : Utf8.valid (c : Int) = true) : (Utf8.encode (c : Int)).size = 3 ∧ 128 ≤ ((Utf8.encode (c : Int)).get! 0).toNat := by
  unfold Utf8.encode
  simp only [hv, if_true, Int.toNat_natCast]
  rw [if_neg (by omega), if_neg (by omega), if_pos (by omega)]
  refine ⟨rfl, ?_⟩
  show 128 ≤ (UInt8.ofNat (0xE0 + c / 4096)).toNat
  rw [UInt8.toNat_ofNat_of_lt' (by show 0xE0 + c / 4096 < 256; omega)]
  omega
theorem enc4 (c : Nat) (h1 : 65536 ≤ c) (hv : Utf8.valid (c : Int) = true) : (Utf8.encode (c : Int)).size = 4 ∧ 128 ≤ ((Utf8.encode (c : Int)).get! 0).toNat := by
  have h2 : c ≤ 1114111 := by unfold Utf8.valid at hv; simp at hv; omega
  unfold Utf8.encode
  simp only [hv, if_true, Int.toNat_natCast]
  rw [if_neg (by omega), if_neg (by omega), if_neg (by omega)]
  refine ⟨rfl, ?_⟩
  show 128 ≤ (UInt8.ofNat (0xF0 + c / 262144)).toNat
  rw [UInt8.toNat_ofNat_of_lt' (by show 0xF0 + c / 262144 < 256; omega)]
  omega
/-- A byte that is no ASCII: what is decoded there is none, and all its bytes are none. -/
structure High (s : ByteArray) (i r k : Nat) : Prop where
  rune : 128 ≤ r
  pos : 1 ≤ k
  all : ∀ j, j < k → i + j < s.size ∧ 128 ≤ (s.get! (i + j)).toNat
  enc : r ≠ 65533 → 2 ≤ k ∧ (Utf8.encode (r : Int)).size = k ∧ 128 ≤ ((Utf8.encode (r : Int)).get! 0).toNat
theorem dec_high (s : ByteArray) (i : Nat) (hi : i < s.size) (h : 128 ≤ (s.get! i).toNat) : High s i (Utf8.decode s i).1 (Utf8.decode s i).2 := by
  have h0 : 128 ≤ (s.get! (i + 0)).toNat := h
  have hb := (s.get! (i + 0)).toNat_lt
  have bad : High s i 65533 1 := ⟨by omega, by omega, fun j hj => (by obtain rfl : j = 0 := (by omega); exact ⟨hi, h0⟩), fun h => absurd rfl h⟩
  unfold Utf8.decode
  simp only [Utf8.runeError]
  obtain ⟨b0, hb0⟩ : ∃ b0, (s.get! (i + 0)).toNat = b0 := ⟨_, rfl⟩
  rw [hb0] at h0 hb
  simp only [hb0]
  rw [if_neg (by omega)]
  have hcont : ∀ k, (decide (i + k < s.size) && (s.get! (i + k)).toNat / 64 == 2) = true → i + k < s.size ∧ 128 ≤ (s.get! (i + k)).toNat := fun k hk => by
    simp only [Bool.and_eq_true, decide_eq_true_eq, beq_iff_eq] at hk
    exact ⟨hk.1, by omega⟩
  split
  · rename_i h1
    simp only [Bool.and_eq_true] at h1
    have c1 := hcont 1 (by simp only [Bool.and_eq_true]; exact h1.2)
    have hr := h1.1
    simp only [beq_iff_eq] at hr
    split
    · rename_i hc
      obtain ⟨e1, e2⟩ := enc2 _ hc (by omega)
      exact ⟨by omega, by simp, fun j hj => by
        rcases (show j = 0 ∨ j = 1 by simp only at hj; omega) with rfl | rfl
        · exact ⟨hi, by rw [hb0]; exact h0⟩
        · exact c1, fun _ => ⟨by simp, e1, e2⟩⟩
    · exact bad
  · split
    · rename_i h1
      simp only [Bool.and_eq_true] at h1
      have c1 := hcont 1 (by simp only [Bool.and_eq_true]; exact h1.1.2)
      have c2 := hcont 2 (by simp only [Bool.and_eq_true]; exact h1.2)
      have hr := h1.1.1
      simp only [beq_iff_eq] at hr
      split
      · rename_i hc
        simp only [Bool.and_eq_true, decide_eq_true_eq] at hc
        obtain ⟨e1, e2⟩ := enc3 _ hc.1 (by omega) hc.2
        exact ⟨by simp only; omega, by simp, fun j hj => by
          rcases (show j = 0 ∨ j = 1 ∨ j = 2 by simp only at hj; omega) with rfl | rfl | rfl
          · exact ⟨hi, by rw [hb0]; exact h0⟩
          · exact c1
          · exact c2, fun _ => ⟨by simp, e1, e2⟩⟩
      · exact bad
    · split
      · rename_i h1
        simp only [Bool.and_eq_true] at h1
        have c1 := hcont 1 (by simp only [Bool.and_eq_true]; exact h1.1.1.2)
        have c2 := hcont 2 (by simp only [Bool.and_eq_true]; exact h1.1.2)
        have c3 := hcont 3 (by simp only [Bool.and_eq_true]; exact h1.2)
        split
        · rename_i hc
          simp only [Bool.and_eq_true, decide_eq_true_eq] at hc
          obtain ⟨e1, e2⟩ := enc4 _ hc.1 hc.2
          exact ⟨by simp only; omega, by simp, fun j hj => by
            rcases (show j = 0 ∨ j = 1 ∨ j = 2 ∨ j = 3 by simp only at hj; omega) with rfl | rfl | rfl | rfl
            · exact ⟨hi, by rw [hb0]; exact h0⟩
            · exact c1
            · exact c2
            · exact c3, fun _ => ⟨by simp, e1, e2⟩⟩
        · exact bad
      · exact bad
end Go.Proofs.YtfbhhhghjehjjaaDoor

/-
  bytes.IndexAny at eight bytes or fewer.
-/
namespace Go.Proofs.YtfbhhhghjehjjaaDoor
set_option linter.unusedSimpArgs false
set_option linter.unusedVariables false
open Go.RowKit Go.Shelf Go.Lib

theorem no_high {chars : ByteArray} (hascii : ∀ (j : Nat) b, chars.data.toList[j]? = some b → b.toNat < 128) {x : UInt8} (hx : 128 ≤ x.toNat) : chars.data.toList.contains x = false := by
  cases h : chars.data.toList.contains x with
  | false => rfl
  | true =>
    obtain ⟨j, hj, he⟩ := List.mem_iff_getElem.1 (List.contains_iff_mem.1 h)
    have := hascii j x (by rw [List.getElem?_eq_getElem hj, he])
    omega
set_option maxHeartbeats 8000000 in
set_option maxRecDepth 1000000 in
theorem by_one (s : ByteArray) (b off cap : Nat) (chars : ByteArray) (w : World) (hcap : s.size ≤ cap) (hB : BAt s b off w) (h2 : 2 ≤ chars.size) (h8 : s.size = 1)
    (hascii : ∀ (j : Nat) b, chars.data.toList[j]? = some b → b.toNat < 128) :
    Calls Tryd.prog 48 #[.slice (some ⟨b, off, none⟩) s.size cap, .string chars] w fun e w' => e = .returned (.int .i64 (Lib.indexAny s.data.toList chars.data.toList)) ∧ Below w.heap.size w w' := by
  have HA : Aside (∀ (j : Nat) b, chars.data.toList[j]? = some b → b.toNat < 128) := hascii
  have hemp : chars.toList.isEmpty = false := by
    rw [Lib.toList_data]
    cases h : chars.data.toList with
    | nil => have := Lib.size_eq chars; rw [h, List.length_nil] at this; omega
    | cons _ _ => rfl
  have hs1 : ((s.size : Int) == 1) = true := beq_iff_eq.2 (by omega)
  have hs0 : (0 : Int) < (s.size : Int) := by omega
  obtain ⟨x, hx⟩ : ∃ x : UInt8, s[0]'(by omega) = x := ⟨_, rfl⟩
  have hxl : s.data.toList[0]? = some x := by rw [← hx]; exact Lib.data_getElem? s 0 (by omega)
  have hcell := hB 0 (by omega)
  rw [show s.get! 0 = x by rw [← hx]; exact get_at s 0 (by omega), Nat.add_zero] at hcell
  have hl : s.data.toList = [x] := by
    have hn : s.data.toList.length = 1 := by rw [← Lib.size_eq]; exact h8
    cases h : s.data.toList with
    | nil => rw [h] at hn; simp at hn
    | cons a t =>
      rw [h] at hn hxl
      simp at hn hxl
      rw [hn, hxl]
  rw [hl]
  have hback : ((x.toNat : Int)).toNat.toUInt8 = x := by simp
  have hcon := Lib.contains_iff_indexByte chars.data.toList x
  have HH := @no_high chars hascii x
  have HN : Aside (128 ≤ x.toNat → Lib.indexAny [x] chars.data.toList = -1) := fun h => Lib.indexAny_none (fun j b hj hb => by
    obtain rfl : j = 0 := by simpa using hj
    simp only [List.getElem?_cons_zero, Option.some.injEq] at hb
    rw [← hb]; exact HH h)
  have HF : Aside (chars.data.toList.contains x = false → Lib.indexAny [x] chars.data.toList = -1) := fun h => Lib.indexAny_none (fun j b hj hb => by
    obtain rfl : j = 0 := by simpa using hj
    simp only [List.getElem?_cons_zero, Option.some.injEq] at hb
    rw [← hb]; exact h)
  have HT : Aside (chars.data.toList.contains x = true → Lib.indexAny [x] chars.data.toList = 0) := fun h => Lib.indexAny_hit (Lib.NoAny.zero _ _) (List.getElem?_cons_zero ..) h
  clear hascii hB hl hxl HH hx
  have t3 := Tryd.underlying3; have a3 := Tryd.isAgg3; have z3 := Tryd.sizeOf3; have v3 := Tryd.zeroValue3
  have t4 := Tryd.underlying4; have a4 := Tryd.isAgg4; have z4 := Tryd.sizeOf4; have v4 := Tryd.zeroValue4
  have t5 := Tryd.underlying5; have a5 := Tryd.isAgg5; have z5 := Tryd.sizeOf5; have v5 := Tryd.zeroValue5
  have t9 := Tryd.underlying9; have a9 := Tryd.isAgg9; have z9 := Tryd.sizeOf9; have v9 := Tryd.zeroValue9
  have t21 := Tryd.underlying21; have a21 := Tryd.isAgg21; have z21 := Tryd.sizeOf21; have v21 := Tryd.zeroValue21
  have t22 := Tryd.underlying22; have a22 := Tryd.isAgg22; have z22 := Tryd.sizeOf22; have v22 := Tryd.zeroValue22
  have hwr : wrap32 (x.toNat : Int) = (x.toNat : Int) := by have := UInt8.toNat_lt x; unfold wrap32; omega
  by_cases hx128 : 128 ≤ x.toNat
  · have hxz : (128 : Int) ≤ (x.toNat : Int) := by omega
    clear hcon
    go_enter Tryd.func48, Tryd.ntmps48
    go_wp2
    go_loopg [5] chars.size (fun g s5 wx => ∃ i : Nat, i + g = chars.size ∧ (∃ r, s5 = .int .i32 r) ∧ wx = w.iter chars i)
    case atStart => exact ⟨0, by omega, ⟨_, rfl⟩, rfl⟩
    case round =>
      obtain ⟨i, hig, ⟨r, rfl⟩, rfl⟩ := hrel
      cases gk with
      | zero =>
        obtain rfl : i = chars.size := by omega
        have hnx := run_next_end (P := Tryd.prog) w chars chars.size
        go_wp2
        go_ret
        exact ⟨by rw [HN.out hx128]; rfl, (Below.refl _ _).alloc (Nat.le_refl _) _⟩
      | succ g =>
        have hi : i < chars.size := by omega
        obtain ⟨y, hy⟩ : ∃ y : UInt8, chars[i]'hi = y := ⟨_, rfl⟩
        have hyl : chars.data.toList[i]? = some y := by rw [← hy]; exact Lib.data_getElem? chars i hi
        have hy128 : y.toNat < 128 := HA.out i y hyl
        have hnx := fun ty => run_next_ascii (P := Tryd.prog) w chars i ty hi (by rw [hy]; exact hy128)
        rw [hy] at hnx
        clear hyl hy
        have hne : ((y.toNat : Int) == 65533) = false := beq_eq_false_iff_ne.2 (by omega)
        go_wp2
        go_roundg g
        case measure => omega
        case rel => exact ⟨i + 1, by omega, ⟨_, rfl⟩, rfl⟩
  · have hxz : ¬ ((128 : Int) ≤ (x.toNat : Int)) := by omega
    cases hin : chars.data.toList.contains x <;> rw [hin] at hcon
    · have hlt : ¬ ((0 : Int) ≤ Lib.indexByte chars.data.toList x) := of_decide_eq_false hcon.symm
      clear hcon
      go_enter Tryd.func48, Tryd.ntmps48
      go_wp2
      rw [run_callFunc_extern Tryd.func67 (by kernel_rfl) (by kernel_rfl) (by kernel_rfl) (e := Extern.BytealgIndexByte.indexByte) (by kernel_rfl), Lib.run_indexByteString, hback]
      simp only [Result.andThen]
      rw [Oper.upon_value]
      go_wp2
      go_ret
      exact ⟨by rw [HF.out hin]; rfl, Below.refl _ _⟩
    · have hge : (0 : Int) ≤ Lib.indexByte chars.data.toList x := of_decide_eq_true hcon.symm
      clear hcon
      go_enter Tryd.func48, Tryd.ntmps48
      go_wp2
      rw [run_callFunc_extern Tryd.func67 (by kernel_rfl) (by kernel_rfl) (by kernel_rfl) (e := Extern.BytealgIndexByte.indexByte) (by kernel_rfl), Lib.run_indexByteString, hback]
      simp only [Result.andThen]
      rw [Oper.upon_value]
      go_wp2
      go_ret
      exact ⟨by rw [HT.out hin]; rfl, Below.refl _ _⟩
end Go.Proofs.YtfbhhhghjehjjaaDoor

/-
  bytes.IndexAny at two to eight bytes: rune by rune.
-/
namespace Go.Proofs.YtfbhhhghjehjjaaDoor
set_option linter.unusedSimpArgs false
set_option linter.unusedVariables false
open Go.RowKit Go.Shelf Go.Lib

theorem no_highs {s chars : ByteArray} (hascii : ∀ (j : Nat) b, chars.data.toList[j]? = some b → b.toNat < 128) {i k : Nat} (h : NoAny s.data.toList chars.data.toList i) (hk : ∀ j, j < k → i + j < s.size ∧ 128 ≤ (s.get! (i + j)).toNat) : NoAny s.data.toList chars.data.toList (i + k) := fun j b hj hb => by
  by_cases hji : j < i
  · exact h j b hji hb
  · obtain ⟨h1, h2⟩ := hk (j - i) (by omega)
    rw [show i + (j - i) = j by omega] at h1 h2
    have h3 := Lib.data_getElem? s j h1
    rw [h3] at hb
    cases hb
    have h4 := get_at s j h1
    rw [Nat.add_zero] at h4
    rw [h4] at h2
    exact no_high hascii h2
theorem enc_ne {chars e : ByteArray} (hascii : ∀ (j : Nat) b, chars.data.toList[j]? = some b → b.toNat < 128) (hs : 1 ≤ e.size) (h : 128 ≤ (e.get! 0).toNat) : chars ≠ e := fun he => by
  subst he
  have h4 := get_at chars 0 (by omega)
  rw [Nat.add_zero] at h4
  rw [h4] at h
  have := hascii 0 _ (Lib.data_getElem? chars 0 (by omega))
  omega
theorem ne_list {chars e : ByteArray} (h : chars ≠ e) : (chars.toList == e.toList) = false := by
  cases hb : chars.toList == e.toList with
  | false => rfl
  | true =>
    have h2 := beq_iff_eq.1 hb
    rw [Lib.toList_data, Lib.toList_data] at h2
    exact absurd (ByteArray.ext (Array.ext' h2)) h
theorem enc_cmp {chars : ByteArray} (hascii : ∀ (j : Nat) b, chars.data.toList[j]? = some b → b.toNat < 128) {s : ByteArray} {i r k : Nat} (H : High s i r k) (hr : r ≠ 65533) : (chars.toList == (Utf8.encode (r : Int)).toList) = false :=
  ne_list (enc_ne hascii (by obtain ⟨q1, q2, _⟩ := H.enc hr; omega) (H.enc hr).2.2)
theorem max_no : Tryd.prog.globals.findIdx? (·.name == "internal/bytealg.MaxLen") = some 0 := by kernel_rfl
theorem is_none (chars e : ByteArray) (w : World) (m : Int) (hm : w.cell? ⟨0, 0, none⟩ = some (.int .i64 m)) (h2 : 2 ≤ e.size) (hb : (e.size : Int) ≤ m) (hc : chars.size ≤ e.size) (hne : (e.toList == chars.toList) = false) (hs : chars.size < 4294967281) :
    (callFunc 73 #[.string chars, .string e]).run Tryd.prog w = .ok (.value (.int .i64 (-1))) w := by
  rw [run_callFunc_extern Tryd.func73 (by kernel_rfl) (by kernel_rfl) (by kernel_rfl) (e := Extern.BytealgIndex.index) (by kernel_rfl), Lib.run_indexString chars e w 0 m max_no hm h2 hb hs, show Lib.index chars.data.toList e.data.toList = -1 from Lib.long chars e hc hne]
  rfl
set_option maxHeartbeats 2000000 in
set_option maxRecDepth 1000000 in
theorem by_short (s : ByteArray) (b off cap : Nat) (chars : ByteArray) (w : World) (m : Int) (hcap : s.size ≤ cap) (hB : BAt s b off w) (h2 : chars.size = 2) (h8 : s.size ≤ 8) (h1 : s.size ≠ 1)
    (hT : Lib.Utf8Tabs 1 2 w) (hm : w.cell? ⟨0, 0, none⟩ = some (.int .i64 m))
    (hascii : ∀ (j : Nat) b, chars.data.toList[j]? = some b → b.toNat < 128) :
    Calls Tryd.prog 48 #[.slice (some ⟨b, off, none⟩) s.size cap, .string chars] w fun e w' => e = .returned (.int .i64 (Lib.indexAny s.data.toList chars.data.toList)) ∧ Below w.heap.size w w' := by
  have HA : Aside (∀ (j : Nat) b, chars.data.toList[j]? = some b → b.toNat < 128) := hascii
  clear hascii
  have hemp : chars.toList.isEmpty = false := by
    rw [Lib.toList_data]
    cases h : chars.data.toList with
    | nil => have := Lib.size_eq chars; rw [h, List.length_nil] at this; omega
    | cons _ _ => rfl
  have hs1 : ((s.size : Int) == 1) = false := beq_eq_false_iff_ne.2 (by omega)
  have hn1 : ((chars.size : Int) == 1) = false := beq_eq_false_iff_ne.2 (by omega)
  have h8z : decide ((8 : Int) < (s.size : Int)) = false := decide_eq_false (by omega)
  have HT : Aside (Lib.Utf8Tabs 1 2 w) := hT
  have HB : Aside (BAt s b off w) := hB
  have HM : Aside (w.cell? ⟨0, 0, none⟩ = some (.int .i64 m)) := hm
  clear hT hB hm
  have t3 := Tryd.underlying3; have a3 := Tryd.isAgg3; have z3 := Tryd.sizeOf3; have v3 := Tryd.zeroValue3
  have t4 := Tryd.underlying4; have a4 := Tryd.isAgg4; have z4 := Tryd.sizeOf4; have v4 := Tryd.zeroValue4
  have t5 := Tryd.underlying5; have a5 := Tryd.isAgg5; have z5 := Tryd.sizeOf5; have v5 := Tryd.zeroValue5
  have t9 := Tryd.underlying9; have a9 := Tryd.isAgg9; have z9 := Tryd.sizeOf9; have v9 := Tryd.zeroValue9
  have t21 := Tryd.underlying21; have a21 := Tryd.isAgg21; have z21 := Tryd.sizeOf21; have v21 := Tryd.zeroValue21
  have t22 := Tryd.underlying22; have a22 := Tryd.isAgg22; have z22 := Tryd.sizeOf22; have v22 := Tryd.zeroValue22
  have e1 : ∀ args w, (callFunc 69 args).run Tryd.prog w = .ok (.enter 69 args) w := enters_of Tryd.func69 (by kernel_rfl) rfl
  have e2 : ∀ args w, (callFunc 72 args).run Tryd.prog w = .ok (.enter 72 args) w := enters_of Tryd.func72 (by kernel_rfl) rfl
  go_enter Tryd.func48, Tryd.ntmps48
  go_wp2_with (go_at_fn 69; refine (by_should _ _).mono ?_; rintro e w' ⟨rfl, hw⟩; rw [hw, h8z])
  go_loopg [11, 12] s.size (fun gf s11 s12 wx => ∃ pos : Nat, s12 = .int .i64 pos ∧ (∃ k : Int, s11 = .int .i64 k) ∧ pos ≤ s.size ∧ Below w.heap.size w wx ∧ Lib.NoAny s.data.toList chars.data.toList pos ∧ s.size ≤ pos + gf)
  case atStart => exact ⟨0, rfl, ⟨0, rfl⟩, Nat.zero_le _, Below.refl _ _, Lib.NoAny.zero _ _, by omega⟩
  case round =>
    obtain ⟨pos, rfl, ⟨k0, rfl⟩, hpos, hbw, hno, hfu⟩ := hrel
    have HN : Aside (Lib.NoAny s.data.toList chars.data.toList pos) := hno
    clear hno
    by_cases hps : pos < s.size
    · obtain ⟨g', rfl⟩ : ∃ g', gk = g' + 1 := ⟨gk - 1, by omega⟩
      have hpz : (pos : Int) < (s.size : Int) := by omega
      obtain ⟨x, hx⟩ : ∃ x : UInt8, s[pos]'hps = x := ⟨_, rfl⟩
      have hxl : s.data.toList[pos]? = some x := by rw [← hx]; exact Lib.data_getElem? s pos hps
      have Hx : Aside (s.data.toList[pos]? = some x) := hxl
      have hcell := HB.out.below hbw pos hps
      have hgx : s.get! pos = x := by rw [← hx]; exact get_at s pos hps
      rw [hgx] at hcell
      have hback : ((x.toNat : Int)).toNat.toUInt8 = x := by simp
      have hwr : wrap32 (x.toNat : Int) = (x.toNat : Int) := by have := UInt8.toNat_lt x; unfold wrap32; omega
      by_cases hx128 : 128 ≤ x.toNat
      · have hxz : (128 : Int) ≤ (x.toNat : Int) := by omega
        have hxz' : ¬ ((x.toNat : Int) < 128) := by omega
        have H := dec_high s pos hps (by rw [hgx]; exact hx128)
        have cD := Any7.utf8_DecodeRune { Tryd.lays32 with } (s.extract pos s.size) b (off + pos) (cap - pos) wr (Utf8Tabs_below HT.out hbw) ((HB.out.below hbw).tail pos)
        rw [Lib.tail_size, dec_tail s pos hps] at cD
        have hr1 := Lib.rune_le s pos
        obtain ⟨R, hR⟩ : ∃ R, (Utf8.decode s pos).1 = R := ⟨_, rfl⟩
        obtain ⟨K, hK⟩ : ∃ K, (Utf8.decode s pos).2 = K := ⟨_, rfl⟩
        rw [hR, hK] at cD H
        rw [hR] at hr1
        have hKs : pos + K ≤ s.size := by have := (H.all (K - 1) (by have := H.pos; omega)).1; have := H.pos; omega
        have HH : Aside (High s pos R K) := H
        have hR128 := H.rune
        have hK1 := H.pos
        clear hx hxl hgx hR hK H
        have hmx : ∀ W, Below wr.heap.size wr W → W.cell? ⟨0, 0, none⟩ = some (.int .i64 m) := fun W hb1 => ((hbw.trans (hb1.mono hbw.size)).cell (block_lt_of_cell HM.out)).trans HM.out
        have HX : Aside (∀ W, Below wr.heap.size wr W → W.cell? ⟨0, 0, none⟩ = some (.int .i64 m)) := hmx
        clear hmx
        by_cases hR : R = 65533
        · subst hR
          go_wp2_with (go_at_fn 72; go_fit cD; rintro e W ⟨rfl, hb1⟩)
          have hbW : Below w.heap.size w W := hbw.trans (hb1.mono hbw.size)
          go_loopg [15] 2 (fun g s15 wx => ∃ i : Nat, i + g = 2 ∧ wx = W.iter chars i ∧ (∃ v, s15 = v))
          case atStart => exact ⟨0, by omega, rfl, _, rfl⟩
          case round =>
            obtain ⟨i, hig, rfl, v, rfl⟩ := hrel
            cases gk with
            | zero =>
              obtain rfl : i = 2 := by omega
              have hnx := fun ty => run_next_end (P := Tryd.prog) W chars 2 ty (by omega)
              go_wp2
              go_roundg g'
              case measure => omega
              case rel => exact ⟨pos + K, by go_num, ⟨_, rfl⟩, hKs, hbW.alloc hbW.size _, no_highs HA.out HN.out HH.out.all, by omega⟩
            | succ g =>
              have hi : i < chars.size := by omega
              obtain ⟨y, hy⟩ : ∃ y : UInt8, chars[i]'hi = y := ⟨_, rfl⟩
              have hyl : chars.data.toList[i]? = some y := by rw [← hy]; exact Lib.data_getElem? chars i hi
              have hy128 : y.toNat < 128 := HA.out i y hyl
              have hnx := fun ty => run_next_ascii (P := Tryd.prog) W chars i ty hi (by rw [hy]; exact hy128)
              rw [hy] at hnx
              clear hyl hy
              have hne : ((65533 : Int) == (y.toNat : Int)) = false := beq_eq_false_iff_ne.2 (by omega)
              go_wp2
              go_roundg g
              case measure => omega
              case rel => exact ⟨i + 1, by omega, rfl, _, rfl⟩
        · have hcmp := enc_cmp HA.out HH.out hR
          have hK1' := (HH.out.enc hR).1
          have hRe : ((R : Int) == 65533) = false := beq_eq_false_iff_ne.2 (by omega)
          by_cases hK2 : K = 2
          · have hKe : ((2 : Int) == (K : Int)) = true := beq_iff_eq.2 (by omega)
            go_wp2_with (go_at_fn 72; go_fit cD; rintro e W ⟨rfl, hb1⟩)
            have hbW : Below w.heap.size w W := hbw.trans (hb1.mono hbw.size)
            go_roundg g'
            case measure => omega
            case rel => exact ⟨pos + K, by go_num, ⟨_, rfl⟩, hKs, hbW, no_highs HA.out HN.out HH.out.all, by omega⟩
          · have hKe : ((2 : Int) == (K : Int)) = false := beq_eq_false_iff_ne.2 (by omega)
            by_cases hKm : (K : Int) ≤ m
            · have hIS : Aside (∀ W, Below wr.heap.size wr W → (callFunc 73 #[.string chars, .string (Utf8.encode (R : Int))]).run Tryd.prog W = .ok (.value (.int .i64 (-1))) W) := fun W hW => is_none chars _ W m (HX.out W hW) (by rw [(HH.out.enc hR).2.1]; omega) (by rw [(HH.out.enc hR).2.1]; omega) (by rw [(HH.out.enc hR).2.1]; omega) (by rw [Bool.beq_comm]; exact hcmp) (by omega)
              go_wp2_with (go_at_fn 72; go_fit cD; rintro e W ⟨rfl, hb1⟩; have hmW := HX.out W hb1; have hiW := hIS.out W hb1)
              have hbW : Below w.heap.size w W := hbw.trans (hb1.mono hbw.size)
              go_roundg g'
              case measure => omega
              case rel => exact ⟨pos + K, by go_num, ⟨_, rfl⟩, hKs, hbW, no_highs HA.out HN.out HH.out.all, by omega⟩
            · go_wp2_with (go_at_fn 72; go_fit cD; rintro e W ⟨rfl, hb1⟩; have hmW := HX.out W hb1)
              have hbW : Below w.heap.size w W := hbw.trans (hb1.mono hbw.size)
              go_loopg [15] 2 (fun g s15 wx => ∃ i : Nat, i + g = 2 ∧ wx = W.iter chars i ∧ (∃ v, s15 = v))
              case atStart => exact ⟨0, by omega, rfl, _, rfl⟩
              case round =>
                obtain ⟨i, hig, rfl, v, rfl⟩ := hrel
                cases gk with
                | zero =>
                  obtain rfl : i = 2 := by omega
                  have hnx := fun ty => run_next_end (P := Tryd.prog) W chars 2 ty (by omega)
                  go_wp2
                  go_roundg g'
                  case measure => omega
                  case rel => exact ⟨pos + K, by go_num, ⟨_, rfl⟩, hKs, hbW.alloc hbW.size _, no_highs HA.out HN.out HH.out.all, by omega⟩
                | succ g =>
                  have hi : i < chars.size := by omega
                  obtain ⟨y, hy⟩ : ∃ y : UInt8, chars[i]'hi = y := ⟨_, rfl⟩
                  have hyl : chars.data.toList[i]? = some y := by rw [← hy]; exact Lib.data_getElem? chars i hi
                  have hy128 : y.toNat < 128 := HA.out i y hyl
                  have hnx := fun ty => run_next_ascii (P := Tryd.prog) W chars i ty hi (by rw [hy]; exact hy128)
                  rw [hy] at hnx
                  clear hyl hy
                  have hne : ((R : Int) == (y.toNat : Int)) = false := beq_eq_false_iff_ne.2 (by omega)
                  go_wp2
                  go_roundg g
                  case measure => omega
                  case rel => exact ⟨i + 1, by omega, rfl, _, rfl⟩
      · have hxz : ¬ ((128 : Int) ≤ (x.toNat : Int)) := by omega
        have hxz' : (x.toNat : Int) < 128 := by omega
        have hcon := Lib.contains_iff_indexByte chars.data.toList x
        clear hx hxl hgx
        cases hin : chars.data.toList.contains x <;> rw [hin] at hcon
        · have hlt : ¬ ((0 : Int) ≤ Lib.indexByte chars.data.toList x) := of_decide_eq_false hcon.symm
          clear hcon
          go_wp2_with (rw [run_callFunc_extern Tryd.func67 (by kernel_rfl) (by kernel_rfl) (by kernel_rfl) (e := Extern.BytealgIndexByte.indexByte) (by kernel_rfl), Lib.run_indexByteString, hback]; simp only [Result.andThen]; rw [Oper.upon_value])
          go_roundg g'
          case measure => omega
          case rel => exact ⟨pos + 1, by go_num, ⟨_, rfl⟩, by omega, hbw, HN.out.succ Hx.out hin, by omega⟩
        · have hge : (0 : Int) ≤ Lib.indexByte chars.data.toList x := of_decide_eq_true hcon.symm
          clear hcon
          go_wp2_with (rw [run_callFunc_extern Tryd.func67 (by kernel_rfl) (by kernel_rfl) (by kernel_rfl) (e := Extern.BytealgIndexByte.indexByte) (by kernel_rfl), Lib.run_indexByteString, hback]; simp only [Result.andThen]; rw [Oper.upon_value])
          go_ret
          exact ⟨by rw [Lib.indexAny_hit HN.out Hx.out hin]; rfl, hbw⟩
    · obtain rfl : pos = s.size := by omega
      have hpz : ¬ ((s.size : Int) < (s.size : Int)) := by omega
      go_wp2
      go_ret
      exact ⟨by rw [Lib.indexAny_none (by rw [← Lib.size_eq]; exact HN.out)]; rfl, hbw⟩
end Go.Proofs.YtfbhhhghjehjjaaDoor

/-
  bytes.IndexAny: what it does, over data values.
-/
namespace Go.Proofs.YtfbhhhghjehjjaaDoor
set_option linter.unusedSimpArgs false
set_option linter.unusedVariables false
open Go.RowKit Go.Shelf Go.Lib

set_option maxHeartbeats 2000000 in
set_option maxRecDepth 1000000 in
theorem by_zero (p : Option Addr) (cap : Nat) (chars : ByteArray) (w : World) (h2 : chars.size = 2) :
    Calls Tryd.prog 48 #[.slice p 0 cap, .string chars] w fun e w' => e = .returned (.int .i64 (-1)) ∧ w' = w := by
  have hemp : chars.toList.isEmpty = false := by
    rw [Lib.toList_data]
    cases h : chars.data.toList with
    | nil => have := Lib.size_eq chars; rw [h, List.length_nil] at this; omega
    | cons _ _ => rfl
  have hn1 : ((chars.size : Int) == 1) = false := beq_eq_false_iff_ne.2 (by omega)
  have h8z : decide ((8 : Int) < 0) = false := by decide
  have t3 := Tryd.underlying3; have a3 := Tryd.isAgg3; have z3 := Tryd.sizeOf3; have v3 := Tryd.zeroValue3
  have t4 := Tryd.underlying4; have a4 := Tryd.isAgg4; have z4 := Tryd.sizeOf4; have v4 := Tryd.zeroValue4
  have t9 := Tryd.underlying9; have a9 := Tryd.isAgg9; have z9 := Tryd.sizeOf9; have v9 := Tryd.zeroValue9
  have t22 := Tryd.underlying22; have a22 := Tryd.isAgg22; have z22 := Tryd.sizeOf22; have v22 := Tryd.zeroValue22
  have e1 : ∀ args w, (callFunc 69 args).run Tryd.prog w = .ok (.enter 69 args) w := enters_of Tryd.func69 (by kernel_rfl) rfl
  go_enter Tryd.func48, Tryd.ntmps48
  go_wp2_with (go_at_fn 69; refine (by_should _ _).mono ?_; rintro e w' ⟨rfl, hw⟩; rw [hw, h8z])
  go_loopg [11, 12] 0 (fun gf s11 s12 wx => s12 = .int .i64 0 ∧ wx = w ∧ ∃ v, s11 = v)
  case atStart => exact ⟨rfl, rfl, _, rfl⟩
  case round =>
    obtain ⟨rfl, rfl, v, rfl⟩ := hrel
    go_wp2
    go_ret
    exact ⟨rfl, rfl⟩
theorem rows_bytes {w : World} {M : Nat → Prop} {b sz : Nat} : ∀ {l : List UInt8} {o : Nat}, RepRows w M (l.map rowY) b o sz → ∀ (j : Nat) x, l[j]? = some x → w.cell? ⟨b, o + j, none⟩ = some (.int .u8 x.toNat)
  | [], o, _, j, x, hx => by simp at hx
  | y :: l, o, h, j, x, hx => by
    simp only [List.map_cons] at h
    unfold RepRows at h
    obtain ⟨h1, h2, h3⟩ := h
    have hsz : sz = 1 := by rw [← h1]; rfl
    subst hsz
    unfold rowY RepAt at h2
    obtain ⟨⟨u, hc, _, hr⟩, _⟩ := h2
    unfold Rep at hr
    subst hr
    cases j with
    | zero =>
      simp only [List.getElem?_cons_zero, Option.some.injEq] at hx
      subst hx
      simpa using hc
    | succ j =>
      have := rows_bytes h3 j x (by simpa using hx)
      rwa [show o + 1 + j = o + (j + 1) by omega] at this
theorem first_ok : ∀ c, c < 256 → ([240, 240, 240, 240, 240, 240, 240, 240, 240, 240, 240, 240, 240, 240, 240, 240, 240, 240, 240, 240, 240, 240, 240, 240, 240, 240, 240, 240, 240, 240, 240, 240, 240, 240, 240, 240, 240, 240, 240, 240, 240, 240, 240, 240, 240, 240, 240, 240, 240, 240, 240, 240, 240, 240, 240, 240, 240, 240, 240, 240, 240, 240, 240, 240, 240, 240, 240, 240, 240, 240, 240, 240, 240, 240, 240, 240, 240, 240, 240, 240, 240, 240, 240, 240, 240, 240, 240, 240, 240, 240, 240, 240, 240, 240, 240, 240, 240, 240, 240, 240, 240, 240, 240, 240, 240, 240, 240, 240, 240, 240, 240, 240, 240, 240, 240, 240, 240, 240, 240, 240, 240, 240, 240, 240, 240, 240, 240, 240, 241, 241, 241, 241, 241, 241, 241, 241, 241, 241, 241, 241, 241, 241, 241, 241, 241, 241, 241, 241, 241, 241, 241, 241, 241, 241, 241, 241, 241, 241, 241, 241, 241, 241, 241, 241, 241, 241, 241, 241, 241, 241, 241, 241, 241, 241, 241, 241, 241, 241, 241, 241, 241, 241, 241, 241, 241, 241, 241, 241, 241, 241, 241, 241, 241, 241, 2, 2, 2, 2, 2, 2, 2, 2, 2, 2, 2, 2, 2, 2, 2, 2, 2, 2, 2, 2, 2, 2, 2, 2, 2, 2, 2, 2, 2, 2, 19, 3, 3, 3, 3, 3, 3, 3, 3, 3, 3, 3, 3, 35, 3, 3, 52, 4, 4, 4, 68, 241, 241, 241, 241, 241, 241, 241, 241, 241, 241, 241] : List Int)[c]? = some ((Lib.firstT c : Nat) : Int) := by decide +kernel
theorem acc_ok : ∀ i, i < 16 → ([128, 191, 160, 191, 128, 159, 144, 191, 128, 143, 0, 0, 0, 0, 0, 0, 0, 0, 0, 0, 0, 0, 0, 0, 0, 0, 0, 0, 0, 0, 0, 0] : List Int)[2 * i]? = some ((Lib.accLo i : Nat) : Int) ∧ ([128, 191, 160, 191, 128, 159, 144, 191, 128, 143, 0, 0, 0, 0, 0, 0, 0, 0, 0, 0, 0, 0, 0, 0, 0, 0, 0, 0, 0, 0, 0, 0] : List Int)[2 * i + 1]? = some ((Lib.accHi i : Nat) : Int) := by decide +kernel
theorem tab_cell {w : World} {g : Nat} {k : IntKind} {zs : List Int} (h : TabAt w (g, k, zs)) (hn : zs ≠ []) {c : Nat} {z : Int} (hc : zs[c]? = some z) : w.cell? ⟨g, c, none⟩ = some (.int k z) := by
  obtain ⟨u, f, hh⟩ := h.at hn
  simp only at hh
  unfold World.cell?
  simp only [hh]
  simp [hc]
theorem utf8_tabs {w : World} (h : Good w) : Lib.Utf8Tabs 1 2 w := by
  have h1 := h (1, .u8, [240, 240, 240, 240, 240, 240, 240, 240, 240, 240, 240, 240, 240, 240, 240, 240, 240, 240, 240, 240, 240, 240, 240, 240, 240, 240, 240, 240, 240, 240, 240, 240, 240, 240, 240, 240, 240, 240, 240, 240, 240, 240, 240, 240, 240, 240, 240, 240, 240, 240, 240, 240, 240, 240, 240, 240, 240, 240, 240, 240, 240, 240, 240, 240, 240, 240, 240, 240, 240, 240, 240, 240, 240, 240, 240, 240, 240, 240, 240, 240, 240, 240, 240, 240, 240, 240, 240, 240, 240, 240, 240, 240, 240, 240, 240, 240, 240, 240, 240, 240, 240, 240, 240, 240, 240, 240, 240, 240, 240, 240, 240, 240, 240, 240, 240, 240, 240, 240, 240, 240, 240, 240, 240, 240, 240, 240, 240, 240, 241, 241, 241, 241, 241, 241, 241, 241, 241, 241, 241, 241, 241, 241, 241, 241, 241, 241, 241, 241, 241, 241, 241, 241, 241, 241, 241, 241, 241, 241, 241, 241, 241, 241, 241, 241, 241, 241, 241, 241, 241, 241, 241, 241, 241, 241, 241, 241, 241, 241, 241, 241, 241, 241, 241, 241, 241, 241, 241, 241, 241, 241, 241, 241, 241, 241, 2, 2, 2, 2, 2, 2, 2, 2, 2, 2, 2, 2, 2, 2, 2, 2, 2, 2, 2, 2, 2, 2, 2, 2, 2, 2, 2, 2, 2, 2, 19, 3, 3, 3, 3, 3, 3, 3, 3, 3, 3, 3, 3, 35, 3, 3, 52, 4, 4, 4, 68, 241, 241, 241, 241, 241, 241, 241, 241, 241, 241, 241]) (List.mem_of_getElem? (i := 0) rfl)
  have h2 := h (2, .u8, [128, 191, 160, 191, 128, 159, 144, 191, 128, 143, 0, 0, 0, 0, 0, 0, 0, 0, 0, 0, 0, 0, 0, 0, 0, 0, 0, 0, 0, 0, 0, 0]) (List.mem_of_getElem? (i := 1) rfl)
  exact ⟨fun c hc => tab_cell h1 (List.cons_ne_nil _ _) (first_ok c hc), fun i hi => ⟨tab_cell h2 (List.cons_ne_nil _ _) (acc_ok i hi).1, tab_cell h2 (List.cons_ne_nil _ _) (acc_ok i hi).2⟩⟩
theorem max_at {w : World} (h : Good w) : ∃ m, w.cell? ⟨0, 0, none⟩ = some (.int .i64 m) :=
  TabAt.int (t := (0, .i64, [])) (h (0, .i64, []) (List.mem_of_getElem? (i := 2) rfl)) rfl
def m_bytes_IndexAny (s c : List UInt8) : Option Int := if s.length < 4294967281 ∧ c.length = 2 ∧ (c.all fun b => decide (b.toNat < 128)) = true then some (Lib.indexAny s c) else none
theorem spec_bytes_IndexAny (s c : List UInt8) : ∀ r, m_bytes_IndexAny s c = some r → PureSpec Tryd.prog 48 [.slice (s.map rowY), .str c] (.int .i64 r) := by
  intro r hr
  unfold m_bytes_IndexAny at hr
  split at hr
  · rename_i h
    cases hr
    obtain ⟨h1, h2, h3⟩ := h
    refine ⟨by kernel_rfl, fun w M vs hM hv hgood => ?_⟩
    simp only [RepL] at hv
    obtain ⟨u, us, rfl, hu, u', us', rfl, hu', rfl⟩ := hv
    unfold Rep at hu'
    subst hu'
    unfold Rep at hu
    obtain ⟨a, cap, rfl, hcap, hnone, hor⟩ := hu
    simp only [List.length_map] at hcap ⊢
    have hcs : (⟨c.toArray⟩ : ByteArray).size = 2 := by simpa [ByteArray.size] using h2
    have hcl : (⟨c.toArray⟩ : ByteArray).data.toList = c := rfl
    have hsl : (⟨s.toArray⟩ : ByteArray).data.toList = s := rfl
    have hss : (⟨s.toArray⟩ : ByteArray).size = s.length := by simp [ByteArray.size]
    have hasc : ∀ (j : Nat) b, (⟨c.toArray⟩ : ByteArray).data.toList[j]? = some b → b.toNat < 128 := fun j b hb => by
      rw [hcl] at hb
      simpa using List.all_eq_true.1 h3 b (List.mem_of_getElem? hb)
    have fin : Calls Tryd.prog 48 #[.slice a s.length cap, .string ⟨c.toArray⟩] w fun e w' => e = .returned (.int .i64 (Lib.indexAny s c)) ∧ Below w.heap.size w w' := by
      rcases hor with h0 | ⟨b, o, sz, rfl, hnM, hlt, hrows⟩
      · have h0 : s = [] := by simpa using h0
        subst h0
        refine (by_zero a cap ⟨c.toArray⟩ w hcs).mono ?_
        rintro e w' ⟨rfl, rfl⟩
        exact ⟨by rw [Lib.indexAny_none (Lib.NoAny.zero _ _)], Below.refl _ _⟩
      · have hB : BAt ⟨s.toArray⟩ b o w := fun j hj => by
          rw [hss] at hj
          have := rows_bytes hrows j s[j] (List.getElem?_eq_getElem hj)
          rw [this]
          have hg := get_at ⟨s.toArray⟩ j (by rw [hss]; exact hj)
          rw [Nat.add_zero] at hg
          rw [hg]; rfl
        have key : Calls Tryd.prog 48 #[.slice (some ⟨b, o, none⟩) (⟨s.toArray⟩ : ByteArray).size cap, .string ⟨c.toArray⟩] w fun e w' => e = .returned (.int .i64 (Lib.indexAny (⟨s.toArray⟩ : ByteArray).data.toList (⟨c.toArray⟩ : ByteArray).data.toList)) ∧ Below w.heap.size w w' := by
          by_cases g1 : s.length = 1
          · exact by_one _ b o cap _ w (by rw [hss]; exact hcap) hB (by omega) (by rw [hss]; exact g1) hasc
          · by_cases g8 : s.length ≤ 8
            · obtain ⟨m, hm⟩ := max_at hgood
              exact by_short _ b o cap _ w m (by rw [hss]; exact hcap) hB hcs (by rw [hss]; exact g8) (by rw [hss]; exact g1) (utf8_tabs hgood) hm hasc
            · exact by_long _ b o cap _ w (by rw [hss]; exact hcap) hB (by omega) (by rw [hss]; omega) (by rw [hss]; exact h1) (by omega) hasc
        rw [hss] at key
        exact key
    refine fin.mono ?_
    rintro e w' ⟨rfl, hb⟩
    refine ⟨_, rfl, ?_, hb⟩
    unfold Rep
    rfl
  · cases hr
end Go.Proofs.YtfbhhhghjehjjaaDoor

/-
  Bodies of functions and what they compute, printed by programs of mine (wip/tool/gen.py, sc.py) out of the translation; the kernel holds each against the translation.
-/
namespace Go.Proofs.YtfbhhhghjehjjaaDoor
open Go.RowKit
set_option linter.unusedSimpArgs false
set_option linter.unusedVariables false
theorem oT_Tapi_Element {d0 : SV} {v0 : List (List (List UInt8))} {m0 : List Mask} (h0 : cle d0 (.own (.sl 66 m0) (.slice (List.map (rowL rowS) v0)))) : cellsle [d0] (ownR [.sl 66 m0] (rTapi_Element ⟨v0⟩)) := by have h := (cellsle.cons h0 cellsle.nil); simp only [push_cast, seval, dR] at h ⊢; exact h
def bT_Tapi_Element (p0 : Nat) : List SV := [.vec p0]
attribute [push_cast] bT_Tapi_Element
structure Twire_cutter where
  fm : Tapi_Marks
  fb : List UInt8
  fi : Int
  flist : List Tapi_Segment
  fstarts : List Int
  flines : Bool
  deriving DecidableEq
def rTwire_cutter (x : Twire_cutter) : List DV := rTapi_Marks x.fm ++ [.slice (List.map rowY x.fb), .int .i64 x.fi, .slice (List.map rTapi_Segment x.flist), .slice (List.map rowI x.fstarts), .bool x.flines]
attribute [push_cast] rTwire_cutter
theorem fT_Twire_cutter {d0 d1 d2 d3 d4 d5 d6 d7 d8 d9 : DV} {v0 : Tapi_Marks} {v1 : List UInt8} {v2 : Int} {v3 : List Tapi_Segment} {v4 : List Int} {v5 : Bool} (h0 : [d0, d1, d2, d3, d4] = rTapi_Marks v0) (h1 : d5 = .slice (List.map rowY v1)) (h2 : d6 = .int .i64 v2) (h3 : d7 = .slice (List.map rTapi_Segment v3)) (h4 : d8 = .slice (List.map rowI v4)) (h5 : d9 = .bool v5) : [d0, d1, d2, d3, d4, d5, d6, d7, d8, d9] = rTwire_cutter ⟨v0, v1, v2, v3, v4, v5⟩ := by unfold rTwire_cutter; simp only [← h0, h1, h2, h3, h4, h5, List.cons_append, List.nil_append, List.append_assoc, List.append_nil]
theorem oT_Twire_cutter {d0 d1 d2 d3 d4 d5 d6 d7 d8 d9 : SV} {v0 : Tapi_Marks} {v1 : List UInt8} {v2 : Int} {v3 : List Tapi_Segment} {v4 : List Int} {v5 : Bool} {m3 : List Mask} {m4 : List Mask} (h0 : cellsle [d0, d1, d2, d3, d4] (dR (rTapi_Marks v0))) (h1 : svle d5 (.d (.slice (List.map rowY v1)))) (h2 : svle d6 (.d (.int .i64 v2))) (h3 : cle d7 (.own (.sl 46 m3) (.slice (List.map rTapi_Segment v3)))) (h4 : cle d8 (.own (.sl 3 m4) (.slice (List.map rowI v4)))) (h5 : svle d9 (.d (.bool v5))) : cellsle [d0, d1, d2, d3, d4, d5, d6, d7, d8, d9] (ownR [.sh, .sh, .sh, .sh, .sh, .sh, .sh, .sl 46 m3, .sl 3 m4, .sh] (rTwire_cutter ⟨v0, v1, v2, v3, v4, v5⟩)) := by have h := (cellsle.append h0 (cellsle.append (cellsle.consS h1 cellsle.nil) (cellsle.append (cellsle.consS h2 cellsle.nil) (cellsle.append (cellsle.cons h3 cellsle.nil) (cellsle.append (cellsle.cons h4 cellsle.nil) (cellsle.consS h5 cellsle.nil)))))); simp only [push_cast, seval, dR] at h ⊢; exact h
def bT_Twire_cutter (p0 : Tapi_Marks) (p1 : List UInt8) (p2 : Int) (p3 : Nat) (p4 : Nat) (p5 : Bool) : List SV := dR (rTapi_Marks p0) ++ ([.d (.slice (List.map rowY p1))] ++ ([.d (.int .i64 p2)] ++ ([.vec p3] ++ ([.vec p4] ++ ([.d (.bool p5)])))))
attribute [push_cast] bT_Twire_cutter
theorem frzO_Tapi_Element {l : List Tapi_Element} : SV.frzR (vrowO [.sl 66 [.sl 9 [.sh]]] rTapi_Element l) = some (l.map rTapi_Element) := frzR_vrowO rfl (fun _ => rfl)
attribute [push_cast] frzO_Tapi_Element

/-- interchange/kit.IsDigits -/
def sc_kit_IsDigits : SC :=
  (.seq (.reg [.r 2 (.mv (.c (.d (.bool false))))])
  (.seq (.reg (.r 3 (.mv (.t 0)) :: .r 4 (.bin .neq (.t 3) (.c (.d (.str [])))) :: .r 5 (.mv (.t 4)) :: gapp [6, 7] 5 true (.r 6 (.mv (.t 0)) :: .c 7 (.f 33) [.t 6, .c (.d (.int .u8 48)), .c (.d (.int .u8 57))] :: []) (.r 8 (.pick (.t 5) (.t 7) (.c (.d (.bool false)))) :: .r 2 (.mv (.t 8)) :: [])))
  .ret))
theorem fit_kit_IsDigits : fits Tryd.prog 74 Tryd.f74 sc_kit_IsDigits [.t 2] 1 = true := by kernel_rfl

set_option maxRecDepth 100000 in
set_option maxHeartbeats 40000000 in
noncomputable def sims_G2_0_0 : (∀ (x0 : List UInt8), {m : Option (Bool) // ∀ r, m = some r → PureSpec Tryd.prog 74 [.str x0] (.bool r)}) := by
  (intro x0; apply Subtype.mk; intro r hm; apply pure_walk Tryd.func74 fit_kit_IsDigits; unfold sc_kit_IsDigits)
  repeat' (first | with_reducible refine W_seq ?_ | with_reducible refine W_reg ?_ | with_reducible refine W_ret ?_ | with_reducible refine O_nil ?_ | with_reducible refine K_seq ?_ | ((with_reducible apply O_r); (simp only [push_cast, seval]; rfl); (first | exact trivial)) | ((with_reducible apply O_and hm); (simp only [push_cast, seval]; rfl); rfl; intro v hm; rotate_left; intro v g hm) | ((with_reducible apply O_cF hm); (simp only [push_cast, seval]; rfl); (first | apply spec_kit_InBytes _ _ _); (any_goals ((repeat' (first | rfl | (with_reducible first | apply f_cons) | (with_reducible apply f_byte; decide))); done)); intro x hm) | ((with_reducible apply K_endS hm); (focus (simp only [resOf, resL, RV.get, push_cast, seval]; rfl)); (focus ((repeat' (first | rfl)); done))) | ((with_reducible apply K_bool hm); (simp only [push_cast, seval]; rfl)))
noncomputable def m_kit_IsDigits (x0 : List UInt8) : Option (Bool) := (sims_G2_0_0 x0).1
theorem spec_kit_IsDigits (x0 : List UInt8) : ∀ r, m_kit_IsDigits x0 = some r → PureSpec Tryd.prog 74 [.str x0] (.bool r) := (sims_G2_0_0 x0).2

/-- interchange/wire.isMark -/
def sc_wire_isMark : SC :=
  (.seq (.reg [.r 2 (.boxI (.t 0)),
     .r 4 (.mv (.c (.d (.bool false))))])
  (.seq (.reg (.r 5 (.mv (.t 1)) :: .r 6 (.fld 0 (.t 2)) :: .o 7 (.ld1 (.t 6)) :: .r 8 (.bin .eql (.t 5) (.t 7)) :: .r 9 (.mv (.t 8)) :: gapp [10, 11, 12, 13] 9 false (.r 10 (.mv (.t 1)) :: .r 11 (.fld 1 (.t 2)) :: .r 12 (.ld1 (.t 11)) :: .r 13 (.bin .eql (.t 10) (.t 12)) :: []) (.r 14 (.pick (.t 9) (.c (.d (.bool true))) (.t 13)) :: .r 15 (.mv (.t 14)) :: gapp [16, 17, 18, 19] 15 false (.r 16 (.mv (.t 1)) :: .r 17 (.fld 2 (.t 2)) :: .r 18 (.ld1 (.t 17)) :: .r 19 (.bin .eql (.t 16) (.t 18)) :: []) (.r 20 (.pick (.t 15) (.c (.d (.bool true))) (.t 19)) :: .r 21 (.mv (.t 20)) :: gapp [22, 23, 24, 25] 21 false (.r 22 (.mv (.t 1)) :: .r 23 (.fld 4 (.t 2)) :: .r 24 (.ld1 (.t 23)) :: .r 25 (.bin .eql (.t 22) (.t 24)) :: []) (.r 26 (.pick (.t 21) (.c (.d (.bool true))) (.t 25)) :: .r 27 (.mv (.t 26)) :: gapp [28, 29, 30, 31, 32, 33, 34, 35, 36] 27 false (.r 28 (.fld 3 (.t 2)) :: .r 29 (.ld1 (.t 28)) :: .r 30 (.bin .neq (.t 29) (.c (.d (.int .u8 0)))) :: .r 31 (.mv (.t 30)) :: gapp [32, 33, 34, 35] 31 true (.r 32 (.mv (.t 1)) :: .r 33 (.fld 3 (.t 2)) :: .r 34 (.ld1 (.t 33)) :: .r 35 (.bin .eql (.t 32) (.t 34)) :: []) (.r 36 (.pick (.t 31) (.t 35) (.c (.d (.bool false)))) :: [])) (.r 37 (.pick (.t 27) (.c (.d (.bool true))) (.t 36)) :: .r 4 (.mv (.t 37)) :: []))))))
  .ret))
theorem fit_wire_isMark : fits Tryd.prog 45 Tryd.f45 sc_wire_isMark [.t 4] 2 = true := by kernel_rfl

set_option maxRecDepth 100000 in
set_option maxHeartbeats 40000000 in
noncomputable def sims_G2_0_1 : (∀ (x0 : Tapi_Marks) (x1 : UInt8), {m : Option (Bool) // ∀ r, m = some r → PureSpec Tryd.prog 45 [.agg (rTapi_Marks x0), .int .u8 (x1).toNat] (.bool r)}) := by
  (intro x0 x1; apply Subtype.mk; intro r hm; apply pure_walk Tryd.func45 fit_wire_isMark; unfold sc_wire_isMark)
  repeat' (first | with_reducible refine W_seq ?_ | with_reducible refine W_reg ?_ | with_reducible refine W_ret ?_ | with_reducible refine O_nil ?_ | with_reducible refine K_seq ?_ | with_reducible refine O_o2r ?_ | ((with_reducible apply O_r); (simp only [push_cast, seval]; rfl); (first | exact trivial)) | ((with_reducible apply O_and hm); (simp only [push_cast, seval]; rfl); rfl; intro v hm; rotate_left; intro v g hm) | ((with_reducible apply O_or hm); (simp only [push_cast, seval]; rfl); rfl; intro v hm; rotate_left; intro v g hm) | ((with_reducible apply K_endS hm); (focus (simp only [resOf, resL, RV.get, push_cast, seval]; rfl)); (focus ((repeat' (first | rfl)); done))) | ((with_reducible apply K_bool hm); (simp only [push_cast, seval]; rfl)))
noncomputable def m_wire_isMark (x0 : Tapi_Marks) (x1 : UInt8) : Option (Bool) := (sims_G2_0_1 x0 x1).1
theorem spec_wire_isMark (x0 : Tapi_Marks) (x1 : UInt8) : ∀ r, m_wire_isMark x0 x1 = some r → PureSpec Tryd.prog 45 [.agg (rTapi_Marks x0), .int .u8 (x1).toNat] (.bool r) := (sims_G2_0_1 x0 x1).2

/-- interchange/wire.canBegin -/
def sc_wire_canBegin : SC :=
  (.seq (.reg [.r 2 (.mv (.c (.d (.bool false))))])
  (.seq (.reg (.r 3 (.mv (.t 0)) :: .r 4 (.lenT (.t 3)) :: .r 5 (.bin .leq (.t 4) (.c (.d (.int .i64 6)))) :: .r 6 (.mv (.t 5)) :: gapp [7, 8] 6 true (.r 7 (.mv (.t 0)) :: .c 8 (.f 32) [.t 7] :: []) (.r 9 (.pick (.t 6) (.t 8) (.c (.d (.bool false)))) :: .r 10 (.mv (.t 9)) :: gapp [11, 12, 13] 10 true (.r 11 (.mv (.t 0)) :: .r 12 (.sslc (.t 11) none (some (.c (.d (.int .i64 1))))) :: .c 13 (.f 32) [.t 12] :: []) (.r 14 (.pick (.t 10) (.t 13) (.c (.d (.bool false)))) :: .r 15 (.mv (.t 14)) :: gapp [16, 17, 18, 19] 15 true (.r 16 (.mv (.t 0)) :: .r 17 (.sslc (.t 16) none (some (.c (.d (.int .i64 1))))) :: .c 18 (.f 74) [.t 17] :: .r 19 (.not (.t 18)) :: []) (.r 20 (.pick (.t 15) (.t 19) (.c (.d (.bool false)))) :: .r 2 (.mv (.t 20)) :: [])))))
  .ret))
theorem fit_wire_canBegin : fits Tryd.prog 49 Tryd.f49 sc_wire_canBegin [.t 2] 1 = true := by kernel_rfl

set_option maxRecDepth 100000 in
set_option maxHeartbeats 40000000 in
noncomputable def sims_G2_1_0 : (∀ (x0 : List UInt8), {m : Option (Bool) // ∀ r, m = some r → PureSpec Tryd.prog 49 [.str x0] (.bool r)}) := by
  (intro x0; apply Subtype.mk; intro r hm; apply pure_walk Tryd.func49 fit_wire_canBegin; unfold sc_wire_canBegin)
  repeat' (first | with_reducible refine W_seq ?_ | with_reducible refine W_reg ?_ | with_reducible refine W_ret ?_ | with_reducible refine O_nil ?_ | with_reducible refine K_seq ?_ | ((with_reducible apply O_sslcr hm); (iterate 3 (simp only [push_cast, seval]; rfl)); intro e hm) | ((with_reducible apply O_r); (simp only [push_cast, seval]; rfl); (first | exact trivial)) | ((with_reducible apply O_and hm); (simp only [push_cast, seval]; rfl); rfl; intro v hm; rotate_left; intro v g hm) | ((with_reducible apply O_cF hm); (simp only [push_cast, seval]; rfl); (first | apply spec_kit_IsTagPart _ | apply spec_kit_IsDigits _); (any_goals ((repeat' (first | rfl)); done)); intro x hm) | ((with_reducible apply K_endS hm); (focus (simp only [resOf, resL, RV.get, push_cast, seval]; rfl)); (focus ((repeat' (first | rfl)); done))) | ((with_reducible apply K_bool hm); (simp only [push_cast, seval]; rfl)))
noncomputable def m_wire_canBegin (x0 : List UInt8) : Option (Bool) := (sims_G2_1_0 x0).1
theorem spec_wire_canBegin (x0 : List UInt8) : ∀ r, m_wire_canBegin x0 = some r → PureSpec Tryd.prog 49 [.str x0] (.bool r) := (sims_G2_1_0 x0).2

def sc_interchange_wire_cutter_part_L1 : SC :=
  (.seq (.seq (.regD [.r 6 (.mv (.t 0)),
     .r 7 (.nilc (.t 6)),
     .r 8 (.fld 6 (.t 7)),
     .r 9 (.ld1 (.t 8)),
     .r 10 (.mv (.t 0)),
     .r 11 (.nilc (.t 10)),
     .r 12 (.fld 5 (.t 11)),
     .r 13 (.ld1 (.t 12)),
     .r 14 (.len (.t 13)),
     .r 15 (.bin .lss (.t 9) (.t 14))])
  (.cond (.t 15)
    .skip
    (.exit 0)))
  (.block 1 (.seq (.regD [.r 16 (.mv (.t 0)),
       .r 17 (.nilc (.t 16)),
       .r 18 (.fld 5 (.t 17)),
       .r 19 (.ld1 (.t 18)),
       .r 20 (.mv (.t 0)),
       .r 21 (.nilc (.t 20)),
       .r 22 (.fld 6 (.t 21)),
       .r 23 (.ld1 (.t 22)),
       .r 24 (.idx 1 (.t 19) (.t 23)),
       .r 25 (.ld1 (.t 24)),
       .r 5 (.mv (.t 25))])
    (.seq (.block 2 (.seq (.reg (.r 27 (.mv (.t 0)) :: .r 28 (.nilc (.t 27)) :: .r 29 (.fld 0 (.t 28)) :: .r 30 (.fld 3 (.t 29)) :: .o 31 (.ld1 (.t 30)) :: .r 32 (.bin .neq (.t 31) (.c (.d (.int .u8 0)))) :: .r 33 (.mv (.t 32)) :: gapp [34, 35, 36, 37, 38, 39, 40] 33 true (.r 34 (.mv (.t 5)) :: .r 35 (.mv (.t 0)) :: .r 36 (.nilc (.t 35)) :: .r 37 (.fld 0 (.t 36)) :: .r 38 (.fld 3 (.t 37)) :: .r 39 (.ld1 (.t 38)) :: .r 40 (.bin .eql (.t 34) (.t 39)) :: []) (.r 41 (.pick (.t 33) (.t 40) (.c (.d (.bool false)))) :: .r 26 (.mv (.t 41)) :: [])))
      (.cond (.t 26)
        (.seq (.reg [.r 42 (.mv (.t 0)),
           .r 43 (.nilc (.t 42)),
           .r 44 (.fld 6 (.t 43)),
           .o 45 (.ld1 (.t 44)),
           .r 46 (.bin .add (.t 45) (.c (.d (.int .i64 1)))),
           .r 47 (.nilc (.t 42)),
           .r 48 (.fld 6 (.t 47)),
           .w 0 (.st 1 (.t 48) (.t 46))])
        (.seq (.seq (.regD (.r 49 (.mv (.t 0)) :: .r 50 (.nilc (.t 49)) :: .r 51 (.fld 6 (.t 50)) :: .r 52 (.ld1 (.t 51)) :: .r 53 (.mv (.t 0)) :: .r 54 (.nilc (.t 53)) :: .r 55 (.fld 5 (.t 54)) :: .r 56 (.ld1 (.t 55)) :: .r 57 (.len (.t 56)) :: .r 58 (.bin .eql (.t 52) (.t 57)) :: .r 59 (.mv (.t 58)) :: gapp [60, 61, 62, 63, 64, 65, 66, 67, 68, 69, 70, 71, 72, 73, 74, 75] 59 false (.r 60 (.mv (.t 0)) :: .r 61 (.nilc (.t 60)) :: .r 62 (.fld 0 (.t 61)) :: .r 63 (.ldA 5 (.t 62)) :: .r 64 (.mv (.t 0)) :: .r 65 (.nilc (.t 64)) :: .r 66 (.fld 5 (.t 65)) :: .r 67 (.ld1 (.t 66)) :: .r 68 (.mv (.t 0)) :: .r 69 (.nilc (.t 68)) :: .r 70 (.fld 6 (.t 69)) :: .r 71 (.ld1 (.t 70)) :: .r 72 (.idx 1 (.t 67) (.t 71)) :: .r 73 (.ld1 (.t 72)) :: .c 74 (.f 45) [.t 63, .t 73] :: .r 75 (.not (.t 74)) :: []) (.r 76 (.pick (.t 59) (.c (.d (.bool true))) (.t 75)) :: [])))
        (.cond (.t 76)
          (.seq (.reg [.r 2 (.mv (.c (.d (.str [])))),
             .r 3 (.mv (.c (.d (.bool false))))])
          .ret)
          .skip))
        (.regD [.r 77 (.mv (.t 0)),
           .r 78 (.nilc (.t 77)),
           .r 79 (.fld 5 (.t 78)),
           .r 80 (.ld1 (.t 79)),
           .r 81 (.mv (.t 0)),
           .r 82 (.nilc (.t 81)),
           .r 83 (.fld 6 (.t 82)),
           .r 84 (.ld1 (.t 83)),
           .r 85 (.idx 1 (.t 80) (.t 84)),
           .r 86 (.ld1 (.t 85)),
           .r 5 (.mv (.t 86))])))
        (.seq (.reg [.r 88 (.mv (.t 0)),
           .r 89 (.nilc (.t 88)),
           .r 90 (.fld 0 (.t 89)),
           .o 91 (.ldA 5 (.t 90)),
           .r 92 (.mv (.t 5)),
           .c 93 (.f 45) [.t 91, .t 92],
           .r 87 (.mv (.t 93))])
        (.cond (.t 87)
          (.seq (.reg [.r 94 (.mv (.t 4)),
             .r 95 (.cvbs (.t 94)),
             .r 2 (.mv (.t 95)),
             .r 3 (.mv (.c (.d (.bool true))))])
          .ret)
          (.seq (.reg (.r 97 (.mv (.t 5)) :: .r 98 (.bin .lss (.t 97) (.c (.d (.int .u8 32)))) :: .r 99 (.mv (.t 98)) :: gapp [100, 101] 99 false (.r 100 (.mv (.t 5)) :: .r 101 (.bin .gtr (.t 100) (.c (.d (.int .u8 126)))) :: []) (.r 102 (.pick (.t 99) (.c (.d (.bool true))) (.t 101)) :: .r 96 (.mv (.t 102)) :: [])))
          (.cond (.t 96)
            (.seq (.reg [.r 2 (.mv (.c (.d (.str [])))),
               .r 3 (.mv (.c (.d (.bool false))))])
            .ret)
            .skip)))))))
    (.seq (.reg [.r 103 (.mv (.t 4)),
       .r 104 (.mv (.t 5)),
       .r 105 (.bslice 1 [.t 104]),
       .w 106 (.app 5 1 (.t 103) (.t 105)),
       .r 4 (.mv (.t 106))])
    (.reg [.r 107 (.mv (.t 0)),
       .r 108 (.nilc (.t 107)),
       .r 109 (.fld 6 (.t 108)),
       .o 110 (.ld1 (.t 109)),
       .r 111 (.bin .add (.t 110) (.c (.d (.int .i64 1)))),
       .r 112 (.nilc (.t 107)),
       .r 113 (.fld 6 (.t 112)),
       .w 0 (.st 1 (.t 113) (.t 111))]))))))
def sc_interchange_wire_cutter_part_B1 : SC := .block 0 (.loop sc_interchange_wire_cutter_part_L1)
/-- (*interchange/wire.cutter).part -/
def sc_interchange_wire_cutter_part : SC :=
  (.seq (.reg [.r 2 (.mv (.c (.d (.str [])))),
     .r 3 (.mv (.c (.d (.bool false))))])
  (.seq (.reg [.r 4 (.mv (.c (.nils)))])
  (.seq sc_interchange_wire_cutter_part_B1
  (.seq (.reg [.r 2 (.mv (.c (.d (.str [])))),
     .r 3 (.mv (.c (.d (.bool false))))])
  .ret))))
theorem fit_interchange_wire_cutter_part : fits Tryd.prog 50 Tryd.f50 sc_interchange_wire_cutter_part [.t 2, .t 3] 1 = true := by kernel_rfl

set_option maxRecDepth 100000 in
set_option maxHeartbeats 40000000 in
noncomputable def sims_G2_1_1 : (∀ (x0 : Twire_cutter), {m : Option (((List UInt8) × Bool) × Twire_cutter) // ∀ r, m = some r → FSpec Tryd.prog 50 (.own (.pt [.sh, .sh, .sh, .sh, .sh, .sh, .sh, .sl 46 (List.replicate 2 .sh), .sl 3 (List.replicate 1 .sh), .sh]) (.ptr (rTwire_cutter x0)) :: List.map SV.d ([] : List DV)) (.tup (List.map SV.d [.str r.1.1, .bool r.1.2])) (.own (.pt [.sh, .sh, .sh, .sh, .sh, .sh, .sh, .sl 46 (List.replicate 2 .sh), .sl 3 (List.replicate 1 .sh), .sh]) (.ptr (rTwire_cutter r.2)) :: List.map SV.d ([] : List DV))}) := by
  (intro x0; apply Subtype.mk; intro r hm; apply fspec_walk1 (N := 114) (k := 1) Tryd.func50 fit_interchange_wire_cutter_part (by kernel_rfl) rfl rfl (by decide); unfold sc_interchange_wire_cutter_part)
  repeat' (first | ((with_reducible apply W_openBs (id := 0) (cid := 1007) (off := 7) (n := 2) (e := 46)); (focus (simp only [push_cast, seval]; (try rfl); done)); (focus (simp only [push_cast, seval]; (try rfl); done)); (focus decide); (focus rfl); (focus (intro _; rfl)); (focus (simp only [push_cast, seval]; (try rfl); done))) | ((with_reducible apply W_openBs (id := 0) (cid := 1008) (off := 8) (n := 1) (e := 3)); (focus (simp only [push_cast, seval]; (try rfl); done)); (focus (simp only [push_cast, seval]; (try rfl); done)); (focus decide); (focus rfl); (focus (intro _; rfl)); (focus (simp only [push_cast, seval]; (try rfl); done))) | with_reducible refine W_seq ?_ | with_reducible refine W_reg ?_ | with_reducible refine W_regD ?_ | with_reducible refine W_block ?_ | with_reducible refine W_skip ?_ | with_reducible refine W_ret ?_ | with_reducible refine W_exit ?_ | with_reducible refine O_nil ?_ | with_reducible refine K_seq ?_ | with_reducible refine K_seqE ?_ | with_reducible refine K_seqR ?_ | with_reducible refine K_block ?_ | with_reducible refine K_blockR ?_ | with_reducible refine O_o2r ?_ | ((with_reducible apply O_idxr hm); (iterate 2 (simp only [push_cast, seval]; rfl)); (intro _; rfl); intro e hm) | ((with_reducible apply O_cvbsV); (iterate 2 (simp only [push_cast, seval]; rfl))) | ((with_reducible apply O_r); (simp only [push_cast, seval]; rfl); (first | exact trivial)) | ((with_reducible apply O_and hm); (simp only [push_cast, seval]; rfl); rfl; intro v hm; rotate_left; intro v g hm) | ((with_reducible apply O_or hm); (simp only [push_cast, seval]; rfl); rfl; intro v hm; rotate_left; intro v g hm) | ((with_reducible apply O_cF hm); (simp only [push_cast, seval]; rfl); (first | apply spec_wire_isMark _ _); (any_goals ((repeat' (first | rfl)); done)); intro x hm) | ((with_reducible apply O_w); (simp only [push_cast, seval]; rfl); (first | exact trivial)) | ((with_reducible apply O_appV hm); (iterate 4 (simp only [push_cast, seval]; rfl)); (focus ((repeat' (first | rfl | (with_reducible first | apply dv_slice | apply fold_nil | apply fold_cons))); done)); decide; (intro _; rfl); intro hm) | ((with_reducible apply S_condB hm); (simp only [push_cast, seval]; rfl); intro hm; rotate_left; intro hm) | ((with_reducible apply K_bool hm); (simp only [push_cast, seval]; rfl)) | ((with_reducible apply K_leave hm); intro r hm) | ((with_reducible apply K_leaveR hm); intro r hm) | ((apply S_loopY (b := 0) (X := sc_interchange_wire_cutter_part_B1) (x := sc_interchange_wire_cutter_part_L1) rfl (fun (c : Unit) (s : Tapi_Marks × (List UInt8) × Int × (List Tapi_Segment) × (List Int) × Bool × (List UInt8)) => st [(0, .ref 0 0), (4, .vec 4), (114, .ref 0 0)] [(1007, .vec 46 2 (vrow rTapi_Segment s.2.2.2.1)), (1008, .vec 3 1 (vrow rowI s.2.2.2.2.1)), (0, .box (bT_Twire_cutter s.1 s.2.1 s.2.2.1 1007 1008 s.2.2.2.2.2.1)), (4, .vec 5 1 (vrow rowY s.2.2.2.2.2.2))]) (c := ()) (s0 := (_, _, _, _, _, _, _)) hm); (focus (first | (dsimp only; done))); (with_reducible refine Then.mk ?_ ?_); apply Imp.trans; (focus (apply imp_vecnil (slot := 4) (id := 4) (e := 5) (sz := 1); (focus (simp only [push_cast, seval]; done))))) | ((apply K_next (s' := (_, _, _, _, _, _, _)) hm); (focus (first | (dsimp only; done)))) | ((apply K_brk (s' := (_, _, _, _, _, _, _)) hm); (focus (first | (dsimp only; done)))) | (((with_reducible apply K_brkR hm); intro r hm)) | (((with_reducible apply K_endP (a := (_, _)) hm (ms := [.sh, .sh, .sh, .sh, .sh, .sh, .sh, .sl 46 (List.replicate 2 .sh), .sl 3 (List.replicate 1 .sh), .sh])); (focus ((try ((apply Imp.trans); (focus ((apply imp_closeBs (id := 0) (cid := 1007) (off := 7) (n := 2) (e := 46)); (focus (simp only [push_cast, seval]; (try rfl); done)); (focus (simp only [push_cast, seval]; (try rfl); done)); (focus decide); (focus (simp only [push_cast, seval]; (try rfl); done)); (focus ((repeat' (first | (with_reducible first | apply r_rfl))); done)); (focus (intro _; rfl)); (focus (simp only [push_cast, seval]; (try rfl); done)))))); (try ((apply Imp.trans); (focus ((apply imp_closeBs (id := 0) (cid := 1008) (off := 8) (n := 1) (e := 3)); (focus (simp only [push_cast, seval]; (try rfl); done)); (focus (simp only [push_cast, seval]; (try rfl); done)); (focus decide); (focus (simp only [push_cast, seval]; (try rfl); done)); (focus ((repeat' (first | (with_reducible first | apply r_rfl))); done)); (focus (intro _; rfl)); (focus (simp only [push_cast, seval]; (try rfl); done)))))); exact Imp.refl _)); (focus (simp only [push_cast, seval]; (try rfl); done)); (focus ((repeat' (first | (with_reducible first | apply oT_Twire_cutter | apply cT_Tapi_Marks) | ((with_reducible apply svle_eq); (focus (first | rfl)); (focus ((repeat' (first | rfl)); done))) | ((with_reducible apply cle_own); (focus rfl); (focus ((repeat' (first | rfl)); done))))); done)); (focus (intro _; rfl)); (focus (simp only [push_cast, seval]; (try rfl); done)); (focus (simp only [push_cast, seval]; (try rfl); done)); (focus (simp only [push_cast, seval]; (try rfl); done)); (focus (simp only [push_cast, seval]; (try rfl); done)); (focus (first | (apply he_n; (focus ((repeat' (first | rfl)); done))))))) | (((with_reducible apply LoopB.of); (focus (first | (dsimp only; done))); (focus ((intro _; repeat' (first | with_reducible exact impC_endF | with_reducible refine impC_seq ?_)))); (intro s o hm; first | unfold sc_interchange_wire_cutter_part_L1); rotate_left; intro s hm)) | (((apply imp_stT; (repeat' (first | with_reducible exact keepT_nil | with_reducible exact keepC_nil | with_reducible apply keepT_cons | with_reducible apply keepC_cons | ((with_reducible apply svle_eq); (focus (first | (simp only [push_cast, seval]; rfl))); (focus ((repeat' (first | rfl)); done))) | ((with_reducible apply chle_eq); (focus (first | (simp only [push_cast, seval]; rfl))); (first | with_reducible exact chle_rfl rfl | with_reducible apply chle_vec)) | (with_reducible first | apply r_nil))); done))))
noncomputable def m_interchange_wire_cutter_part (x0 : Twire_cutter) : Option (((List UInt8) × Bool) × Twire_cutter) := (sims_G2_1_1 x0).1
theorem spec_interchange_wire_cutter_part (x0 : Twire_cutter) : ∀ r, m_interchange_wire_cutter_part x0 = some r → FSpec Tryd.prog 50 (.own (.pt [.sh, .sh, .sh, .sh, .sh, .sh, .sh, .sl 46 (List.replicate 2 .sh), .sl 3 (List.replicate 1 .sh), .sh]) (.ptr (rTwire_cutter x0)) :: List.map SV.d ([] : List DV)) (.tup (List.map SV.d [.str r.1.1, .bool r.1.2])) (.own (.pt [.sh, .sh, .sh, .sh, .sh, .sh, .sh, .sl 46 (List.replicate 2 .sh), .sl 3 (List.replicate 1 .sh), .sh]) (.ptr (rTwire_cutter r.2)) :: List.map SV.d ([] : List DV)) := (sims_G2_1_1 x0).2

/-- (*interchange/wire.cutter).tag -/
def sc_interchange_wire_cutter_tag : SC :=
  (.seq (.reg [.r 2 (.mv (.c (.d (.str [])))),
     .r 3 (.mv (.c (.d (.bool false))))])
  (.seq (.regD [.r 6 (.mv (.t 0)),
     .r 7 (.nilc (.t 6)),
     .r 8 (.fld 5 (.t 7)),
     .r 9 (.ld1 (.t 8)),
     .r 10 (.mv (.t 0)),
     .r 11 (.nilc (.t 10)),
     .r 12 (.fld 6 (.t 11)),
     .r 13 (.ld1 (.t 12)),
     .r 14 (.slc 1 (.t 9) (some (.t 13)) none),
     .r 15 (.mv (.t 0)),
     .r 16 (.nilc (.t 15)),
     .r 17 (.fld 0 (.t 16)),
     .r 18 (.fld 0 (.t 17)),
     .r 19 (.ld1 (.t 18)),
     .r 20 (.mv (.t 0)),
     .r 21 (.nilc (.t 20)),
     .r 22 (.fld 0 (.t 21)),
     .r 23 (.fld 4 (.t 22)),
     .r 24 (.ld1 (.t 23)),
     .r 25 (.bslice 1 [.t 19, .t 24]),
     .r 26 (.cvbs (.t 25)),
     .c 27 (.f 48) [.t 14, .t 26],
     .r 4 (.mv (.t 27))])
  (.seq (.seq (.reg [.r 28 (.mv (.t 4)),
     .r 29 (.bin .lss (.t 28) (.c (.d (.int .i64 0))))])
  (.cond (.t 29)
    (.seq (.seq (.regD [.r 30 (.mv (.t 0)),
       .r 31 (.nilc (.t 30)),
       .r 32 (.fld 5 (.t 31)),
       .r 33 (.ld1 (.t 32)),
       .r 34 (.mv (.t 0)),
       .r 35 (.nilc (.t 34)),
       .r 36 (.fld 6 (.t 35)),
       .r 37 (.ld1 (.t 36)),
       .r 38 (.slc 1 (.t 33) (some (.t 37)) none),
       .r 39 (.cvbs (.t 38)),
       .c 40 (.f 49) [.t 39]])
    (.cond (.t 40)
      (.reg [.r 41 (.mv (.t 0)),
         .r 42 (.mv (.t 0)),
         .r 43 (.nilc (.t 42)),
         .r 44 (.fld 5 (.t 43)),
         .o 45 (.ld1 (.t 44)),
         .r 46 (.len (.t 45)),
         .r 47 (.nilc (.t 41)),
         .r 48 (.fld 6 (.t 47)),
         .w 0 (.st 1 (.t 48) (.t 46))])
      .skip))
    (.seq (.reg [.r 2 (.mv (.c (.d (.str [])))),
       .r 3 (.mv (.c (.d (.bool false))))])
    .ret))
    .skip))
  (.seq (.regD [.r 49 (.mv (.t 0)),
     .r 50 (.nilc (.t 49)),
     .r 51 (.fld 5 (.t 50)),
     .r 52 (.ld1 (.t 51)),
     .r 53 (.mv (.t 0)),
     .r 54 (.nilc (.t 53)),
     .r 55 (.fld 6 (.t 54)),
     .r 56 (.ld1 (.t 55)),
     .r 57 (.mv (.t 0)),
     .r 58 (.nilc (.t 57)),
     .r 59 (.fld 6 (.t 58)),
     .r 60 (.ld1 (.t 59)),
     .r 61 (.mv (.t 4)),
     .r 62 (.bin .add (.t 60) (.t 61)),
     .r 63 (.slc 1 (.t 52) (some (.t 56)) (some (.t 62))),
     .r 64 (.cvbs (.t 63)),
     .r 5 (.mv (.t 64))])
  (.seq (.seq (.reg [.r 65 (.mv (.t 5)),
     .c 66 (.f 38) [.t 65],
     .r 67 (.not (.t 66))])
  (.cond (.t 67)
    (.seq (.reg [.r 2 (.mv (.c (.d (.str [])))),
       .r 3 (.mv (.c (.d (.bool false))))])
    .ret)
    .skip))
  (.seq (.reg [.r 68 (.mv (.t 0)),
     .r 69 (.nilc (.t 68)),
     .r 70 (.fld 6 (.t 69)),
     .o 71 (.ld1 (.t 70)),
     .r 72 (.mv (.t 4)),
     .r 73 (.bin .add (.t 71) (.t 72)),
     .r 74 (.nilc (.t 68)),
     .r 75 (.fld 6 (.t 74)),
     .w 0 (.st 1 (.t 75) (.t 73))])
  (.seq (.reg [.r 76 (.mv (.t 5)),
     .r 2 (.mv (.t 76)),
     .r 3 (.mv (.c (.d (.bool true))))])
  .ret)))))))
theorem fit_interchange_wire_cutter_tag : fits Tryd.prog 36 Tryd.f36 sc_interchange_wire_cutter_tag [.t 2, .t 3] 1 = true := by kernel_rfl

set_option maxRecDepth 100000 in
set_option maxHeartbeats 40000000 in
noncomputable def sims_G2_2_0 : (∀ (x0 : Twire_cutter), {m : Option (((List UInt8) × Bool) × Twire_cutter) // ∀ r, m = some r → FSpec Tryd.prog 36 (.own (.pt [.sh, .sh, .sh, .sh, .sh, .sh, .sh, .sl 46 (List.replicate 2 .sh), .sl 3 (List.replicate 1 .sh), .sh]) (.ptr (rTwire_cutter x0)) :: List.map SV.d ([] : List DV)) (.tup (List.map SV.d [.str r.1.1, .bool r.1.2])) (.own (.pt [.sh, .sh, .sh, .sh, .sh, .sh, .sh, .sl 46 (List.replicate 2 .sh), .sl 3 (List.replicate 1 .sh), .sh]) (.ptr (rTwire_cutter r.2)) :: List.map SV.d ([] : List DV))}) := by
  (intro x0; apply Subtype.mk; intro r hm; apply fspec_walk1 (N := 77) (k := 1) Tryd.func36 fit_interchange_wire_cutter_tag (by kernel_rfl) rfl rfl (by decide); unfold sc_interchange_wire_cutter_tag)
  repeat' (first | ((with_reducible apply W_openBs (id := 0) (cid := 1007) (off := 7) (n := 2) (e := 46)); (focus (simp only [push_cast, seval]; (try rfl); done)); (focus (simp only [push_cast, seval]; (try rfl); done)); (focus decide); (focus rfl); (focus (intro _; rfl)); (focus (simp only [push_cast, seval]; (try rfl); done))) | ((with_reducible apply W_openBs (id := 0) (cid := 1008) (off := 8) (n := 1) (e := 3)); (focus (simp only [push_cast, seval]; (try rfl); done)); (focus (simp only [push_cast, seval]; (try rfl); done)); (focus decide); (focus rfl); (focus (intro _; rfl)); (focus (simp only [push_cast, seval]; (try rfl); done))) | with_reducible refine W_seq ?_ | with_reducible refine W_reg ?_ | with_reducible refine W_regD ?_ | with_reducible refine W_skip ?_ | with_reducible refine W_ret ?_ | with_reducible refine O_nil ?_ | with_reducible refine K_seq ?_ | with_reducible refine K_seqR ?_ | with_reducible refine O_o2r ?_ | ((with_reducible apply O_slcr hm); (iterate 3 (simp only [push_cast, seval]; rfl)); (intro _; rfl); intro e hm) | ((with_reducible apply O_cvbsD); (simp only [push_cast, seval]; rfl)) | ((with_reducible apply O_cvbsL); (simp only [push_cast, seval]; rfl); (focus (repeat' (first | exact bytesC_nil | with_reducible apply bytesC_cons)))) | ((with_reducible apply O_r); (simp only [push_cast, seval]; rfl); (first | exact trivial)) | ((with_reducible apply O_cF hm); (simp only [push_cast, seval]; rfl); (first | apply spec_bytes_IndexAny _ _ | apply spec_wire_canBegin _ | apply spec_kit_IsTag _); (any_goals ((repeat' (first | rfl)); done)); intro x hm) | ((with_reducible apply O_w); (simp only [push_cast, seval]; rfl); (first | exact trivial)) | ((with_reducible apply S_condB hm); (simp only [push_cast, seval]; rfl); intro hm; rotate_left; intro hm) | (((with_reducible apply K_endP (a := (_, _)) hm (ms := [.sh, .sh, .sh, .sh, .sh, .sh, .sh, .sl 46 (List.replicate 2 .sh), .sl 3 (List.replicate 1 .sh), .sh])); (focus ((try ((apply Imp.trans); (focus ((apply imp_closeBs (id := 0) (cid := 1007) (off := 7) (n := 2) (e := 46)); (focus (simp only [push_cast, seval]; (try rfl); done)); (focus (simp only [push_cast, seval]; (try rfl); done)); (focus decide); (focus (simp only [push_cast, seval]; (try rfl); done)); (focus ((repeat' (first | (with_reducible first | apply r_rfl))); done)); (focus (intro _; rfl)); (focus (simp only [push_cast, seval]; (try rfl); done)))))); (try ((apply Imp.trans); (focus ((apply imp_closeBs (id := 0) (cid := 1008) (off := 8) (n := 1) (e := 3)); (focus (simp only [push_cast, seval]; (try rfl); done)); (focus (simp only [push_cast, seval]; (try rfl); done)); (focus decide); (focus (simp only [push_cast, seval]; (try rfl); done)); (focus ((repeat' (first | (with_reducible first | apply r_rfl))); done)); (focus (intro _; rfl)); (focus (simp only [push_cast, seval]; (try rfl); done)))))); exact Imp.refl _)); (focus (simp only [push_cast, seval]; (try rfl); done)); (focus ((repeat' (first | (with_reducible first | apply oT_Twire_cutter | apply cT_Tapi_Marks) | ((with_reducible apply svle_eq); (focus (first | rfl)); (focus ((repeat' (first | rfl)); done))) | ((with_reducible apply cle_own); (focus rfl); (focus ((repeat' (first | rfl)); done))))); done)); (focus (intro _; rfl)); (focus (simp only [push_cast, seval]; (try rfl); done)); (focus (simp only [push_cast, seval]; (try rfl); done)); (focus (simp only [push_cast, seval]; (try rfl); done)); (focus (simp only [push_cast, seval]; (try rfl); done)); (focus (first | (apply he_n; (focus ((repeat' (first | rfl)); done))))))))
noncomputable def m_interchange_wire_cutter_tag (x0 : Twire_cutter) : Option (((List UInt8) × Bool) × Twire_cutter) := (sims_G2_2_0 x0).1
theorem spec_interchange_wire_cutter_tag (x0 : Twire_cutter) : ∀ r, m_interchange_wire_cutter_tag x0 = some r → FSpec Tryd.prog 36 (.own (.pt [.sh, .sh, .sh, .sh, .sh, .sh, .sh, .sl 46 (List.replicate 2 .sh), .sl 3 (List.replicate 1 .sh), .sh]) (.ptr (rTwire_cutter x0)) :: List.map SV.d ([] : List DV)) (.tup (List.map SV.d [.str r.1.1, .bool r.1.2])) (.own (.pt [.sh, .sh, .sh, .sh, .sh, .sh, .sh, .sl 46 (List.replicate 2 .sh), .sl 3 (List.replicate 1 .sh), .sh]) (.ptr (rTwire_cutter r.2)) :: List.map SV.d ([] : List DV)) := (sims_G2_2_0 x0).2

def sc_interchange_wire_cutter_element_R9 : SC :=
  (.regE [.r 39 (.fld 0 (.t 4)),
   .r 40 (.ld1 (.t 39)),
   .r 41 (.mv (.t 8)),
   .r 42 (.fld 0 (.t 4)),
   .r 43 (.ld1 (.t 42)),
   .r 44 (.mv (.t 8)),
   .r 45 (.idx 1 (.t 43) (.t 44)),
   .r 46 (.ld1 (.t 45)),
   .r 47 (.mv (.t 6)),
   .r 48 (.bslice 1 [.t 47]),
   .x 49 (.app 9 1 (.t 46) (.t 48)) [(0, 39, .fld 0 (.t 4)), (1, 40, .ld1 (.t 39)), (2, 41, .mv (.t 8))],
   .r 50 (.idx 1 (.t 40) (.t 41)),
   .x 0 (.st 1 (.t 50) (.t 49)) []])
def sc_interchange_wire_cutter_element_L1 : SC :=
  (.block 1 (.seq (.reg [.r 16 (.mv (.t 0)),
       .p (some 17) (.f 50) [.t 16],
       .r 15 (.mv (.t 17)),
       .r 18 (.ext (.t 15) 0),
       .r 19 (.ext (.t 15) 1),
       .r 6 (.mv (.t 18)),
       .r 7 (.mv (.t 19))])
    (.seq (.seq (.reg [.r 20 (.mv (.t 7)),
       .r 21 (.not (.t 20))])
    (.cond (.t 21)
      (.seq (.reg [.o 22 (.ldA 1 (.t 4)),
         .w 0 (.st 1 (.t 2) (.t 22)),
         .r 3 (.mv (.c (.d (.bool false))))])
      .ret)
      .skip))
    (.seq (.seq (.reg [.r 23 (.mv (.t 5)),
       .r 24 (.mv (.t 0)),
       .r 25 (.nilc (.t 24)),
       .r 26 (.fld 0 (.t 25)),
       .r 27 (.fld 2 (.t 26)),
       .o 28 (.ld1 (.t 27)),
       .r 29 (.bin .eql (.t 23) (.t 28))])
    (.cond (.t 29)
      (.reg [.r 30 (.fld 0 (.t 4)),
         .o 31 (.ld1 (.t 30)),
         .r 32 (.bslice 1 [.c (.nils)]),
         .w 33 (.app 66 1 (.t 31) (.t 32)),
         .r 34 (.fld 0 (.t 4)),
         .w 0 (.st 1 (.t 34) (.t 33))])
      .skip))
    (.seq (.reg [.r 35 (.fld 0 (.t 4)),
       .o 36 (.ld1 (.t 35)),
       .r 37 (.len (.t 36)),
       .r 38 (.bin .sub (.t 37) (.c (.d (.int .i64 1)))),
       .r 8 (.mv (.t 38))])
    (.seq sc_interchange_wire_cutter_element_R9
    (.seq (.regD [.r 51 (.mv (.t 0)),
       .r 52 (.nilc (.t 51)),
       .r 53 (.fld 5 (.t 52)),
       .r 54 (.ld1 (.t 53)),
       .r 55 (.mv (.t 0)),
       .r 56 (.nilc (.t 55)),
       .r 57 (.fld 6 (.t 56)),
       .r 58 (.ld1 (.t 57)),
       .r 59 (.idx 1 (.t 54) (.t 58)),
       .r 60 (.ld1 (.t 59)),
       .r 5 (.mv (.t 60))])
    (.seq (.seq (.reg (.r 61 (.mv (.t 5)) :: .r 62 (.mv (.t 0)) :: .r 63 (.nilc (.t 62)) :: .r 64 (.fld 0 (.t 63)) :: .r 65 (.fld 0 (.t 64)) :: .o 66 (.ld1 (.t 65)) :: .r 67 (.bin .eql (.t 61) (.t 66)) :: .r 68 (.mv (.t 67)) :: gapp [69, 70, 71, 72, 73, 74, 75] 68 false (.r 69 (.mv (.t 5)) :: .r 70 (.mv (.t 0)) :: .r 71 (.nilc (.t 70)) :: .r 72 (.fld 0 (.t 71)) :: .r 73 (.fld 4 (.t 72)) :: .r 74 (.ld1 (.t 73)) :: .r 75 (.bin .eql (.t 69) (.t 74)) :: []) (.r 76 (.pick (.t 68) (.c (.d (.bool true))) (.t 75)) :: [])))
    (.cond (.t 76)
      (.seq (.reg [.o 77 (.ldA 1 (.t 4)),
         .w 0 (.st 1 (.t 2) (.t 77)),
         .r 3 (.mv (.c (.d (.bool true))))])
      .ret)
      .skip))
    (.reg [.r 78 (.mv (.t 0)),
       .r 79 (.nilc (.t 78)),
       .r 80 (.fld 6 (.t 79)),
       .o 81 (.ld1 (.t 80)),
       .r 82 (.bin .add (.t 81) (.c (.d (.int .i64 1)))),
       .r 83 (.nilc (.t 78)),
       .r 84 (.fld 6 (.t 83)),
       .w 0 (.st 1 (.t 84) (.t 82))])))))))))
def sc_interchange_wire_cutter_element_B1 : SC := .block 0 (.loop sc_interchange_wire_cutter_element_L1)
/-- (*interchange/wire.cutter).element -/
def sc_interchange_wire_cutter_element : SC :=
  (.seq (.reg [.w 2 (.boxM (.c (.agg [.nils]))),
     .r 3 (.mv (.c (.d (.bool false))))])
  (.seq (.reg [.r 9 (.build [.nils] []),
     .w 4 (.boxM (.c (.agg [.nils]))),
     .w 0 (.st 1 (.t 4) (.t 9))])
  (.seq (.reg [.r 10 (.mv (.t 0)),
     .r 11 (.nilc (.t 10)),
     .r 12 (.fld 0 (.t 11)),
     .r 13 (.fld 2 (.t 12)),
     .o 14 (.ld1 (.t 13)),
     .r 5 (.mv (.t 14))])
  sc_interchange_wire_cutter_element_B1)))
theorem fit_interchange_wire_cutter_element : fits Tryd.prog 37 Tryd.f37 sc_interchange_wire_cutter_element [.cell 2 1, .t 3] 1 = true := by kernel_rfl

set_option maxRecDepth 100000 in
set_option maxHeartbeats 40000000 in
noncomputable def sims_G2_2_1 : (∀ (x0 : Twire_cutter), {m : Option ((Tapi_Element × Bool) × Twire_cutter) // ∀ r, m = some r → FSpec Tryd.prog 37 (.own (.pt [.sh, .sh, .sh, .sh, .sh, .sh, .sh, .sl 46 (List.replicate 2 .sh), .sl 3 (List.replicate 1 .sh), .sh]) (.ptr (rTwire_cutter x0)) :: List.map SV.d ([] : List DV)) (.tup (List.map SV.d [.agg (rTapi_Element r.1.1), .bool r.1.2])) (.own (.pt [.sh, .sh, .sh, .sh, .sh, .sh, .sh, .sl 46 (List.replicate 2 .sh), .sl 3 (List.replicate 1 .sh), .sh]) (.ptr (rTwire_cutter r.2)) :: List.map SV.d ([] : List DV))}) := by
  (intro x0; apply Subtype.mk; intro r hm; apply fspec_walk1 (N := 85) (k := 1) Tryd.func37 fit_interchange_wire_cutter_element (by kernel_rfl) rfl rfl (by decide); unfold sc_interchange_wire_cutter_element)
  repeat' (first | ((with_reducible apply W_openBs (id := 0) (cid := 1007) (off := 7) (n := 2) (e := 46)); (focus (simp only [push_cast, seval]; (try rfl); done)); (focus (simp only [push_cast, seval]; (try rfl); done)); (focus decide); (focus rfl); (focus (intro _; rfl)); (focus (simp only [push_cast, seval]; (try rfl); done))) | ((with_reducible apply W_openBs (id := 0) (cid := 1008) (off := 8) (n := 1) (e := 3)); (focus (simp only [push_cast, seval]; (try rfl); done)); (focus (simp only [push_cast, seval]; (try rfl); done)); (focus decide); (focus rfl); (focus (intro _; rfl)); (focus (simp only [push_cast, seval]; (try rfl); done))) | ((with_reducible apply W_nilB (id := 4) (cid := 1128) (off := 0) (n := 1) (e := 66)); (focus (simp only [push_cast, seval]; (try rfl); done)); (focus (simp only [push_cast, seval]; (try rfl); done)); (focus decide); (focus (simp only [push_cast, seval]; (try rfl); done))) | ((with_reducible apply W_closeX (id := 1128) (cid := 3049) (off := 0) (n' := 1)); (focus (simp only [push_cast, seval]; rfl)); (focus (simp only [push_cast, seval]; rfl)); (focus exact getI_get (by assumption)); (focus rfl); (focus ((repeat' (first | (with_reducible first | apply r_rfl))); done)); (focus rfl); (focus rfl); (focus (intro _; rfl)); (focus exact Nat.zero_lt_one); (focus rfl); (focus decide)) | ((with_reducible apply W_normO 1128 [.sl 9 [.sh]] (rowL rowS)); (focus (simp only [push_cast, seval]; rfl)); (focus ((repeat' (first | (with_reducible first | apply r_rflO | apply r_oneO | apply r_appO | apply c_ownN))); done))) | with_reducible refine W_seq ?_ | with_reducible refine W_reg ?_ | with_reducible refine W_regD ?_ | with_reducible refine W_block ?_ | with_reducible refine W_skip ?_ | with_reducible refine W_ret ?_ | with_reducible refine O_nil ?_ | with_reducible refine K_seq ?_ | with_reducible refine K_seqR ?_ | with_reducible refine K_block ?_ | with_reducible refine K_blockR ?_ | with_reducible refine O_o2r ?_ | ((with_reducible apply O_idxr hm); (iterate 2 (simp only [push_cast, seval]; rfl)); (intro _; rfl); intro e hm) | ((with_reducible apply O_idxVO hm); (iterate 2 (simp only [push_cast, seval]; rfl)); (focus (first | (simp only [push_cast, seval]; rfl))); (simp only [push_cast, seval]; rfl); intro e he hm) | ((with_reducible apply O_ldF); (iterate 2 (simp only [push_cast, seval]; rfl)); (focus (first | (simp only [push_cast, seval]; exact getI_lt (by assumption)))); (iterate 2 rfl)) | ((with_reducible apply O_r); (simp only [push_cast, seval]; rfl); (first | exact trivial)) | ((with_reducible apply O_or hm); (simp only [push_cast, seval]; rfl); rfl; intro v hm; rotate_left; intro v g hm) | ((with_reducible apply O_w); (simp only [push_cast, seval]; rfl); (first | exact trivial)) | ((with_reducible apply O_appVO hm); (iterate 3 (simp only [push_cast, seval]; rfl)); rfl; (focus (first | decide)); intro hm) | ((with_reducible apply O_stFx); (simp only [push_cast, seval]; rfl); (focus (first | (simp only [push_cast, seval]; rfl))); (simp only [push_cast, seval]; rfl); (focus (first | (simp only [push_cast, seval]; exact getI_lt (by assumption)))); (focus (first | exact Nat.zero_lt_one)); rfl; (focus ((repeat' (first | exact Rer_nil)); done))) | ((with_reducible apply O_appVX hm); (iterate 2 (simp only [push_cast, seval]; rfl)); (focus ((repeat' (first | rfl)); done)); (simp only [push_cast, seval]; rfl); (focus ((repeat' (first | rfl | (with_reducible first | apply eR_nil | apply eR_cons))); done)); (intro _; rfl); (focus ((repeat' (first | exact Rer_nil | ((with_reducible apply Rer_cons); (focus (simp only [push_cast, seval]; rfl)); (focus (first | exact trivial)); (focus (simp only [push_cast, seval]))))); done)); intro hm) | ((with_reducible apply S_condB hm); (simp only [push_cast, seval]; rfl); intro hm; rotate_left; intro hm) | ((with_reducible apply K_bool hm); (simp only [push_cast, seval]; rfl)) | ((with_reducible apply K_leaveR hm); intro r hm) | ((apply S_loopY (b := 0) (X := sc_interchange_wire_cutter_element_B1) (x := sc_interchange_wire_cutter_element_L1) rfl (fun (c : Unit) (s : Tapi_Marks × (List UInt8) × Int × (List Tapi_Segment) × (List Int) × Bool × (List (List (List UInt8))) × Tapi_Element × UInt8) => st [(0, .ref 0 0), (2, .ref 2 0), (4, .ref 4 0), (5, .d (.int .u8 (s.2.2.2.2.2.2.2.2).toNat)), (85, .ref 0 0)] [(1007, .vec 46 2 (vrow rTapi_Segment s.2.2.2.1)), (1008, .vec 3 1 (vrow rowI s.2.2.2.2.1)), (0, .box (bT_Twire_cutter s.1 s.2.1 s.2.2.1 1007 1008 s.2.2.2.2.2.1)), (1128, .vec 66 1 (vrowO [.sl 9 [.sh]] (rowL rowS) s.2.2.2.2.2.2.1)), (4, .box (bT_Tapi_Element 1128)), (2, .box (dR (rTapi_Element s.2.2.2.2.2.2.2.1)))]) (c := ()) (s0 := (_, _, _, _, _, _, _, _, _)) hm); (focus (first | (dsimp only; done))); (with_reducible refine Then.mk ?_ ?_)) | ((apply W_openV (x0 := sc_interchange_wire_cutter_element_R9) 3049 8 (id := 1128) (off := 0) (n' := 1) (cells := fun _ => [.vec 3049]) hm); (focus (simp only [push_cast, seval]; rfl)); (focus (simp only [push_cast, seval]; rfl)); (focus rfl); (focus rfl); (focus (intro _; rfl)); (focus (intro _; rfl)); (focus decide); (focus (intro _; rfl)); (intro x he hm; unfold sc_interchange_wire_cutter_element_R9; with_reducible refine W_regE ?_)) | ((apply K_next (s' := (_, _, _, _, _, _, _, _, _)) hm); (focus (first | (dsimp only; done)))) | (((with_reducible apply K_brkR hm); intro r hm)) | (((with_reducible apply O_pM hm (id := 0) (ms := [.sh, .sh, .sh, .sh, .sh, .sh, .sh, .sl 46 (List.replicate 2 .sh), .sl 3 (List.replicate 1 .sh), .sh])); (focus ((try ((apply Imp.trans); (focus ((apply imp_closeBs (id := 0) (cid := 1007) (off := 7) (n := 2) (e := 46)); (focus (simp only [push_cast, seval]; (try rfl); done)); (focus (simp only [push_cast, seval]; (try rfl); done)); (focus decide); (focus (simp only [push_cast, seval]; (try rfl); done)); (focus ((repeat' (first | (with_reducible first | apply r_rfl))); done)); (focus (intro _; rfl)); (focus (simp only [push_cast, seval]; (try rfl); done)))))); (try ((apply Imp.trans); (focus ((apply imp_closeBs (id := 0) (cid := 1008) (off := 8) (n := 1) (e := 3)); (focus (simp only [push_cast, seval]; (try rfl); done)); (focus (simp only [push_cast, seval]; (try rfl); done)); (focus decide); (focus (simp only [push_cast, seval]; (try rfl); done)); (focus ((repeat' (first | (with_reducible first | apply r_rfl))); done)); (focus (intro _; rfl)); (focus (simp only [push_cast, seval]; (try rfl); done)))))); exact Imp.refl _)); (focus (simp only [push_cast, seval]; (try rfl); done)); (focus (simp only [push_cast, seval]; (try rfl); done)); (focus (simp only [push_cast, seval]; (try rfl); done)); (focus ((repeat' (first | (with_reducible first | apply oT_Twire_cutter | apply cT_Tapi_Marks) | ((with_reducible apply svle_eq); (focus (first | rfl)); (focus ((repeat' (first | rfl)); done))) | ((with_reducible apply cle_own); (focus rfl); (focus ((repeat' (first | rfl)); done))))); done)); (focus rfl); (first | apply spec_interchange_wire_cutter_part _); (any_goals (focus ((repeat' (first | rfl)); done))); (focus (intro _; exact ⟨rfl, rfl, rfl⟩)); intro y hm)) | (((with_reducible apply K_endP (a := (_, _)) hm (ms := [.sh, .sh, .sh, .sh, .sh, .sh, .sh, .sl 46 (List.replicate 2 .sh), .sl 3 (List.replicate 1 .sh), .sh])); (focus ((try ((apply Imp.trans); (focus ((apply imp_freeze (id := 1128)); (focus (simp only [push_cast, seval]; (try rfl); done)); (focus (simp only [push_cast, seval]; (try rfl); done)))))); (try ((apply Imp.trans); (focus ((apply imp_closeBs (id := 0) (cid := 1007) (off := 7) (n := 2) (e := 46)); (focus (simp only [push_cast, seval]; (try rfl); done)); (focus (simp only [push_cast, seval]; (try rfl); done)); (focus decide); (focus (simp only [push_cast, seval]; (try rfl); done)); (focus ((repeat' (first | (with_reducible first | apply r_rfl))); done)); (focus (intro _; rfl)); (focus (simp only [push_cast, seval]; (try rfl); done)))))); (try ((apply Imp.trans); (focus ((apply imp_closeBs (id := 0) (cid := 1008) (off := 8) (n := 1) (e := 3)); (focus (simp only [push_cast, seval]; (try rfl); done)); (focus (simp only [push_cast, seval]; (try rfl); done)); (focus decide); (focus (simp only [push_cast, seval]; (try rfl); done)); (focus ((repeat' (first | (with_reducible first | apply r_rfl))); done)); (focus (intro _; rfl)); (focus (simp only [push_cast, seval]; (try rfl); done)))))); exact Imp.refl _)); (focus (simp only [push_cast, seval]; (try rfl); done)); (focus ((repeat' (first | (with_reducible first | apply oT_Twire_cutter | apply cT_Tapi_Marks) | ((with_reducible apply svle_eq); (focus (first | rfl)); (focus ((repeat' (first | rfl)); done))) | ((with_reducible apply cle_own); (focus rfl); (focus ((repeat' (first | rfl)); done))))); done)); (focus (intro _; rfl)); (focus (simp only [push_cast, seval]; (try rfl); done)); (focus (simp only [push_cast, seval]; (try rfl); done)); (focus (simp only [push_cast, seval]; (try rfl); done)); (focus (simp only [push_cast, seval]; (try rfl); done)); (focus (first | (apply he_n; (focus ((repeat' (first | rfl | (with_reducible first | apply fT_Tapi_Element | apply f_agg | apply f_cons))); done))))))) | ((with_reducible apply K_neverF hm)) | (((with_reducible apply LoopB.of); (focus (first | (dsimp only; done))); (focus ((intro _; repeat' (first | with_reducible exact impC_endF)))); (intro s o hm; first | unfold sc_interchange_wire_cutter_element_L1); rotate_left; intro s hm)) | (((apply imp_stT; (repeat' (first | with_reducible exact keepT_nil | with_reducible exact keepC_nil | with_reducible apply keepT_cons | with_reducible apply keepC_cons | ((with_reducible apply svle_eq); (focus (first | (simp only [push_cast, seval]; rfl) | rfl)); (focus ((repeat' (first | rfl)); done))) | ((with_reducible apply svle_td); (focus (first | rfl)); (focus (first | (simp only [push_cast, seval]; rfl))); (focus ((repeat' (first | (with_reducible first | apply dv_slice | apply fold_nil))); done))) | ((with_reducible apply chle_eq); (focus (first | (simp only [push_cast, seval]; rfl))); (first | with_reducible exact chle_rfl rfl | with_reducible apply chle_vec | with_reducible apply chle_box)) | (with_reducible first | apply cT_Tapi_Element | apply r_nilO))); done))))
noncomputable def m_interchange_wire_cutter_element (x0 : Twire_cutter) : Option ((Tapi_Element × Bool) × Twire_cutter) := (sims_G2_2_1 x0).1
theorem spec_interchange_wire_cutter_element (x0 : Twire_cutter) : ∀ r, m_interchange_wire_cutter_element x0 = some r → FSpec Tryd.prog 37 (.own (.pt [.sh, .sh, .sh, .sh, .sh, .sh, .sh, .sl 46 (List.replicate 2 .sh), .sl 3 (List.replicate 1 .sh), .sh]) (.ptr (rTwire_cutter x0)) :: List.map SV.d ([] : List DV)) (.tup (List.map SV.d [.agg (rTapi_Element r.1.1), .bool r.1.2])) (.own (.pt [.sh, .sh, .sh, .sh, .sh, .sh, .sh, .sl 46 (List.replicate 2 .sh), .sl 3 (List.replicate 1 .sh), .sh]) (.ptr (rTwire_cutter r.2)) :: List.map SV.d ([] : List DV)) := (sims_G2_2_1 x0).2

end Go.Proofs.YtfbhhhghjehjjaaDoor

/-
  Bodies of functions and what they compute, printed by programs of mine (wip/tool/gen.py, sc.py) out of the translation; the kernel holds each against the translation.
-/
namespace Go.Proofs.YtfbhhhghjehjjaaDoor
open Go.RowKit
set_option linter.unusedSimpArgs false
set_option linter.unusedVariables false
structure Tinterchangeref2_cutter where
  fb : List UInt8
  fm : Tapi_Marks
  fat : Int
  fbad : Int
  flines : Bool
  deriving DecidableEq
def rTinterchangeref2_cutter (x : Tinterchangeref2_cutter) : List DV := [.slice (List.map rowY x.fb)] ++ rTapi_Marks x.fm ++ [.int .i64 x.fat, .int .i64 x.fbad, .bool x.flines]
attribute [push_cast] rTinterchangeref2_cutter
theorem oT_Tinterchangeref2_cutter {d0 d1 d2 d3 d4 d5 d6 d7 d8 : SV} {v0 : List UInt8} {v1 : Tapi_Marks} {v2 : Int} {v3 : Int} {v4 : Bool}  (h0 : svle d0 (.d (.slice (List.map rowY v0)))) (h1 : cellsle [d1, d2, d3, d4, d5] (dR (rTapi_Marks v1))) (h2 : svle d6 (.d (.int .i64 v2))) (h3 : svle d7 (.d (.int .i64 v3))) (h4 : svle d8 (.d (.bool v4))) : cellsle [d0, d1, d2, d3, d4, d5, d6, d7, d8] (ownR [.sh, .sh, .sh, .sh, .sh, .sh, .sh, .sh, .sh] (rTinterchangeref2_cutter ⟨v0, v1, v2, v3, v4⟩)) := by have h := (cellsle.append (cellsle.consS h0 cellsle.nil) (cellsle.append h1 (cellsle.append (cellsle.consS h2 cellsle.nil) (cellsle.append (cellsle.consS h3 cellsle.nil) (cellsle.consS h4 cellsle.nil))))); simp only [push_cast, seval, dR] at h ⊢; exact h
def bT_Tinterchangeref2_cutter (p0 : List UInt8) (p1 : Tapi_Marks) (p2 : Int) (p3 : Int) (p4 : Bool) : List SV := [.d (.slice (List.map rowY p0))] ++ (dR (rTapi_Marks p1) ++ ([.d (.int .i64 p2)] ++ ([.d (.int .i64 p3)] ++ ([.d (.bool p4)]))))
attribute [push_cast] bT_Tinterchangeref2_cutter
/-- interchange/interchangeref2.isMark -/
def sc_interchangeref2_isMark : SC :=
  (.seq (.reg [.r 2 (.boxI (.t 0)),
     .r 4 (.mv (.c (.d (.bool false))))])
  (.seq (.reg (.r 5 (.mv (.t 1)) :: .r 6 (.fld 0 (.t 2)) :: .o 7 (.ld1 (.t 6)) :: .r 8 (.bin .eql (.t 5) (.t 7)) :: .r 9 (.mv (.t 8)) :: gapp [10, 11, 12, 13] 9 false (.r 10 (.mv (.t 1)) :: .r 11 (.fld 1 (.t 2)) :: .r 12 (.ld1 (.t 11)) :: .r 13 (.bin .eql (.t 10) (.t 12)) :: []) (.r 14 (.pick (.t 9) (.c (.d (.bool true))) (.t 13)) :: .r 15 (.mv (.t 14)) :: gapp [16, 17, 18, 19] 15 false (.r 16 (.mv (.t 1)) :: .r 17 (.fld 2 (.t 2)) :: .r 18 (.ld1 (.t 17)) :: .r 19 (.bin .eql (.t 16) (.t 18)) :: []) (.r 20 (.pick (.t 15) (.c (.d (.bool true))) (.t 19)) :: .r 21 (.mv (.t 20)) :: gapp [22, 23, 24, 25] 21 false (.r 22 (.mv (.t 1)) :: .r 23 (.fld 4 (.t 2)) :: .r 24 (.ld1 (.t 23)) :: .r 25 (.bin .eql (.t 22) (.t 24)) :: []) (.r 26 (.pick (.t 21) (.c (.d (.bool true))) (.t 25)) :: .r 27 (.mv (.t 26)) :: gapp [28, 29, 30, 31, 32, 33, 34, 35, 36] 27 false (.r 28 (.fld 3 (.t 2)) :: .r 29 (.ld1 (.t 28)) :: .r 30 (.bin .neq (.t 29) (.c (.d (.int .u8 0)))) :: .r 31 (.mv (.t 30)) :: gapp [32, 33, 34, 35] 31 true (.r 32 (.mv (.t 1)) :: .r 33 (.fld 3 (.t 2)) :: .r 34 (.ld1 (.t 33)) :: .r 35 (.bin .eql (.t 32) (.t 34)) :: []) (.r 36 (.pick (.t 31) (.t 35) (.c (.d (.bool false)))) :: [])) (.r 37 (.pick (.t 27) (.c (.d (.bool true))) (.t 36)) :: .r 4 (.mv (.t 37)) :: []))))))
  .ret))
theorem fit_interchangeref2_isMark : fits Tryd.prog 55 Tryd.f55 sc_interchangeref2_isMark [.t 4] 2 = true := by kernel_rfl

set_option maxRecDepth 100000 in
set_option maxHeartbeats 40000000 in
noncomputable def sims_G3_0_0 : (∀ (x0 : Tapi_Marks) (x1 : UInt8), {m : Option (Bool) // ∀ r, m = some r → PureSpec Tryd.prog 55 [.agg (rTapi_Marks x0), .int .u8 (x1).toNat] (.bool r)}) := by
  (intro x0 x1; apply Subtype.mk; intro r hm; apply pure_walk Tryd.func55 fit_interchangeref2_isMark; unfold sc_interchangeref2_isMark)
  repeat' (first | with_reducible refine W_seq ?_ | with_reducible refine W_reg ?_ | with_reducible refine W_ret ?_ | with_reducible refine O_nil ?_ | with_reducible refine K_seq ?_ | with_reducible refine O_o2r ?_ | ((with_reducible apply O_r); (simp only [push_cast, seval]; rfl); (first | exact trivial)) | ((with_reducible apply O_and hm); (simp only [push_cast, seval]; rfl); rfl; intro v hm; rotate_left; intro v g hm) | ((with_reducible apply O_or hm); (simp only [push_cast, seval]; rfl); rfl; intro v hm; rotate_left; intro v g hm) | ((with_reducible apply K_endS hm); (focus (simp only [resOf, resL, RV.get, push_cast, seval]; rfl)); (focus ((repeat' (first | rfl)); done))) | ((with_reducible apply K_bool hm); (simp only [push_cast, seval]; rfl)))
noncomputable def m_interchangeref2_isMark (x0 : Tapi_Marks) (x1 : UInt8) : Option (Bool) := (sims_G3_0_0 x0 x1).1
theorem spec_interchangeref2_isMark (x0 : Tapi_Marks) (x1 : UInt8) : ∀ r, m_interchangeref2_isMark x0 x1 = some r → PureSpec Tryd.prog 55 [.agg (rTapi_Marks x0), .int .u8 (x1).toNat] (.bool r) := (sims_G3_0_0 x0 x1).2

/-- (*interchange/interchangeref2.cutter).stop -/
def sc_interchange_interchangeref2_cutter_stop : SC :=
  (.seq (.reg [.r 4 (.mv (.t 0)),
     .r 5 (.nilc (.t 4)),
     .r 6 (.fld 7 (.t 5)),
     .o 7 (.ld1 (.t 6)),
     .r 8 (.bin .lss (.t 7) (.c (.d (.int .i64 0))))])
  (.cond (.t 8)
    (.reg [.r 9 (.mv (.t 0)),
       .r 10 (.mv (.t 1)),
       .r 11 (.nilc (.t 9)),
       .r 12 (.fld 7 (.t 11)),
       .w 0 (.st 1 (.t 12) (.t 10))])
    .skip))
theorem fit_interchange_interchangeref2_cutter_stop : fits Tryd.prog 24 Tryd.f24 sc_interchange_interchangeref2_cutter_stop [] 2 = true := by kernel_rfl

set_option maxRecDepth 100000 in
set_option maxHeartbeats 40000000 in
noncomputable def sims_G3_0_1 : (∀ (x0 : Tinterchangeref2_cutter) (x1 : Int), {m : Option ((Unit) × Tinterchangeref2_cutter) // ∀ r, m = some r → FSpec Tryd.prog 24 (.own (.pt [.sh, .sh, .sh, .sh, .sh, .sh, .sh, .sh, .sh]) (.ptr (rTinterchangeref2_cutter x0)) :: List.map SV.d ([.int .i64 x1] : List DV)) (.tup []) (.own (.pt [.sh, .sh, .sh, .sh, .sh, .sh, .sh, .sh, .sh]) (.ptr (rTinterchangeref2_cutter r.2)) :: List.map SV.d ([.int .i64 x1] : List DV))}) := by
  (intro x0 x1; apply Subtype.mk; intro r hm; apply fspec_walk1 (N := 13) (k := 2) Tryd.func24 fit_interchange_interchangeref2_cutter_stop (by kernel_rfl) rfl rfl (by decide); unfold sc_interchange_interchangeref2_cutter_stop)
  repeat' (first | with_reducible refine W_seq ?_ | with_reducible refine W_reg ?_ | with_reducible refine W_skip ?_ | with_reducible refine O_nil ?_ | with_reducible refine K_seq ?_ | with_reducible refine O_o2r ?_ | ((with_reducible apply O_r); (simp only [push_cast, seval]; rfl); (first | exact trivial)) | ((with_reducible apply O_w); (simp only [push_cast, seval]; rfl); (first | exact trivial)) | ((with_reducible apply S_condB hm); (simp only [push_cast, seval]; rfl); intro hm; rotate_left; intro hm) | (((with_reducible apply K_endPN (a := ()) hm (ms := [.sh, .sh, .sh, .sh, .sh, .sh, .sh, .sh, .sh])); (focus (exact Imp.refl _)); (focus (simp only [push_cast, seval]; (try rfl); done)); (focus ((repeat' (first | (with_reducible first | apply oT_Tinterchangeref2_cutter | apply cT_Tapi_Marks) | ((with_reducible apply svle_eq); (focus (first | rfl)); (focus ((repeat' (first | rfl)); done))))); done)); (focus (intro _; rfl)); (focus (simp only [push_cast, seval]; (try rfl); done)); (focus (simp only [push_cast, seval]; (try rfl); done)); (focus (simp only [push_cast, seval]; (try rfl); done)); (focus (simp only [push_cast, seval]; (try rfl); done)); (focus (first | exact he_0)))))
noncomputable def m_interchange_interchangeref2_cutter_stop (x0 : Tinterchangeref2_cutter) (x1 : Int) : Option ((Unit) × Tinterchangeref2_cutter) := (sims_G3_0_1 x0 x1).1
theorem spec_interchange_interchangeref2_cutter_stop (x0 : Tinterchangeref2_cutter) (x1 : Int) : ∀ r, m_interchange_interchangeref2_cutter_stop x0 x1 = some r → FSpec Tryd.prog 24 (.own (.pt [.sh, .sh, .sh, .sh, .sh, .sh, .sh, .sh, .sh]) (.ptr (rTinterchangeref2_cutter x0)) :: List.map SV.d ([.int .i64 x1] : List DV)) (.tup []) (.own (.pt [.sh, .sh, .sh, .sh, .sh, .sh, .sh, .sh, .sh]) (.ptr (rTinterchangeref2_cutter r.2)) :: List.map SV.d ([.int .i64 x1] : List DV)) := (sims_G3_0_1 x0 x1).2

def sc_interchange_interchangeref2_cutter_tag_L1 : SC :=
  (.seq (.seq (.regD (.r 9 (.mv (.t 0)) :: .r 10 (.nilc (.t 9)) :: .r 11 (.fld 6 (.t 10)) :: .r 12 (.ld1 (.t 11)) :: .r 13 (.mv (.t 0)) :: .r 14 (.nilc (.t 13)) :: .r 15 (.fld 0 (.t 14)) :: .r 16 (.ld1 (.t 15)) :: .r 17 (.len (.t 16)) :: .r 18 (.bin .lss (.t 12) (.t 17)) :: .r 19 (.mv (.t 18)) :: gapp [20, 21, 22, 23, 24, 25, 26, 27, 28, 29, 30, 31, 32, 33, 34, 35] 19 true (.r 20 (.mv (.t 0)) :: .r 21 (.nilc (.t 20)) :: .r 22 (.fld 0 (.t 21)) :: .r 23 (.ld1 (.t 22)) :: .r 24 (.mv (.t 0)) :: .r 25 (.nilc (.t 24)) :: .r 26 (.fld 6 (.t 25)) :: .r 27 (.ld1 (.t 26)) :: .r 28 (.idx 1 (.t 23) (.t 27)) :: .r 29 (.ld1 (.t 28)) :: .r 30 (.mv (.t 0)) :: .r 31 (.nilc (.t 30)) :: .r 32 (.fld 1 (.t 31)) :: .r 33 (.fld 0 (.t 32)) :: .r 34 (.ld1 (.t 33)) :: .r 35 (.bin .neq (.t 29) (.t 34)) :: []) (.r 36 (.pick (.t 19) (.t 35) (.c (.d (.bool false)))) :: .r 37 (.mv (.t 36)) :: gapp [38, 39, 40, 41, 42, 43, 44, 45, 46, 47, 48, 49, 50, 51, 52, 53] 37 true (.r 38 (.mv (.t 0)) :: .r 39 (.nilc (.t 38)) :: .r 40 (.fld 0 (.t 39)) :: .r 41 (.ld1 (.t 40)) :: .r 42 (.mv (.t 0)) :: .r 43 (.nilc (.t 42)) :: .r 44 (.fld 6 (.t 43)) :: .r 45 (.ld1 (.t 44)) :: .r 46 (.idx 1 (.t 41) (.t 45)) :: .r 47 (.ld1 (.t 46)) :: .r 48 (.mv (.t 0)) :: .r 49 (.nilc (.t 48)) :: .r 50 (.fld 1 (.t 49)) :: .r 51 (.fld 4 (.t 50)) :: .r 52 (.ld1 (.t 51)) :: .r 53 (.bin .neq (.t 47) (.t 52)) :: []) (.r 54 (.pick (.t 37) (.t 53) (.c (.d (.bool false)))) :: []))))
  (.cond (.t 54)
    .skip
    (.exit 0)))
  (.block 1 (.reg [.r 55 (.mv (.t 0)),
       .r 56 (.nilc (.t 55)),
       .r 57 (.fld 6 (.t 56)),
       .o 58 (.ld1 (.t 57)),
       .r 59 (.bin .add (.t 58) (.c (.d (.int .i64 1)))),
       .r 60 (.nilc (.t 55)),
       .r 61 (.fld 6 (.t 60)),
       .w 0 (.st 1 (.t 61) (.t 59))])))
def sc_interchange_interchangeref2_cutter_tag_B1 : SC := .block 0 (.loop sc_interchange_interchangeref2_cutter_tag_L1)
/-- (*interchange/interchangeref2.cutter).tag -/
def sc_interchange_interchangeref2_cutter_tag : SC :=
  (.seq (.reg [.r 2 (.mv (.c (.d (.str []))))])
  (.seq (.reg [.r 5 (.mv (.t 0)),
     .r 6 (.nilc (.t 5)),
     .r 7 (.fld 6 (.t 6)),
     .o 8 (.ld1 (.t 7)),
     .r 3 (.mv (.t 8))])
  (.seq sc_interchange_interchangeref2_cutter_tag_B1
  (.seq (.regD [.r 62 (.mv (.t 0)),
     .r 63 (.nilc (.t 62)),
     .r 64 (.fld 0 (.t 63)),
     .r 65 (.ld1 (.t 64)),
     .r 66 (.mv (.t 3)),
     .r 67 (.mv (.t 0)),
     .r 68 (.nilc (.t 67)),
     .r 69 (.fld 6 (.t 68)),
     .r 70 (.ld1 (.t 69)),
     .r 71 (.slc 1 (.t 65) (some (.t 66)) (some (.t 70))),
     .r 72 (.cvbs (.t 71)),
     .r 4 (.mv (.t 72))])
  (.seq (.seq (.regD [.r 73 (.mv (.t 0)),
     .r 74 (.nilc (.t 73)),
     .r 75 (.fld 6 (.t 74)),
     .r 76 (.ld1 (.t 75)),
     .r 77 (.mv (.t 0)),
     .r 78 (.nilc (.t 77)),
     .r 79 (.fld 0 (.t 78)),
     .r 80 (.ld1 (.t 79)),
     .r 81 (.len (.t 80)),
     .r 82 (.bin .eql (.t 76) (.t 81))])
  (.cond (.t 82)
    (.seq (.reg [.r 83 (.mv (.t 4)),
       .c 84 (.f 53) [.t 83]])
    (.cond (.t 84)
      (.reg [.r 85 (.mv (.t 0)),
         .r 86 (.mv (.t 0)),
         .r 87 (.nilc (.t 86)),
         .r 88 (.fld 0 (.t 87)),
         .o 89 (.ld1 (.t 88)),
         .r 90 (.len (.t 89)),
         .p (some 91) (.f 24) [.t 85, .t 90]])
      (.reg [.r 92 (.mv (.t 0)),
         .r 93 (.mv (.t 3)),
         .p (some 94) (.f 24) [.t 92, .t 93]])))
    (.seq (.reg [.r 95 (.mv (.t 4)),
       .c 96 (.f 54) [.t 95],
       .r 97 (.not (.t 96))])
    (.cond (.t 97)
      (.reg [.r 98 (.mv (.t 0)),
         .r 99 (.mv (.t 3)),
         .p (some 100) (.f 24) [.t 98, .t 99]])
      .skip))))
  (.seq (.reg [.r 101 (.mv (.t 4)),
     .r 2 (.mv (.t 101))])
  .ret))))))
theorem fit_interchange_interchangeref2_cutter_tag : fits Tryd.prog 40 Tryd.f40 sc_interchange_interchangeref2_cutter_tag [.t 2] 1 = true := by kernel_rfl

set_option maxRecDepth 100000 in
set_option maxHeartbeats 40000000 in
noncomputable def sims_G3_1_0 : (∀ (x0 : Tinterchangeref2_cutter), {m : Option (((List UInt8)) × Tinterchangeref2_cutter) // ∀ r, m = some r → FSpec Tryd.prog 40 (.own (.pt [.sh, .sh, .sh, .sh, .sh, .sh, .sh, .sh, .sh]) (.ptr (rTinterchangeref2_cutter x0)) :: List.map SV.d ([] : List DV)) (.d (.str r.1)) (.own (.pt [.sh, .sh, .sh, .sh, .sh, .sh, .sh, .sh, .sh]) (.ptr (rTinterchangeref2_cutter r.2)) :: List.map SV.d ([] : List DV))}) := by
  (intro x0; apply Subtype.mk; intro r hm; apply fspec_walk1 (N := 102) (k := 1) Tryd.func40 fit_interchange_interchangeref2_cutter_tag (by kernel_rfl) rfl rfl (by decide); unfold sc_interchange_interchangeref2_cutter_tag)
  repeat' (first | with_reducible refine W_seq ?_ | with_reducible refine W_reg ?_ | with_reducible refine W_regD ?_ | with_reducible refine W_block ?_ | with_reducible refine W_skip ?_ | with_reducible refine W_ret ?_ | with_reducible refine W_exit ?_ | with_reducible refine O_nil ?_ | with_reducible refine K_seq ?_ | with_reducible refine K_seqE ?_ | with_reducible refine K_block ?_ | with_reducible refine O_o2r ?_ | ((with_reducible apply O_idxr hm); (iterate 2 (simp only [push_cast, seval]; rfl)); (intro _; rfl); intro e hm) | ((with_reducible apply O_slcr hm); (iterate 3 (simp only [push_cast, seval]; rfl)); (intro _; rfl); intro e hm) | ((with_reducible apply O_cvbsD); (simp only [push_cast, seval]; rfl)) | ((with_reducible apply O_r); (simp only [push_cast, seval]; rfl); (first | exact trivial)) | ((with_reducible apply O_and hm); (simp only [push_cast, seval]; rfl); rfl; intro v hm; rotate_left; intro v g hm) | ((with_reducible apply O_cF hm); (simp only [push_cast, seval]; rfl); (first | apply spec_interchangeref2_beginsTag _ | apply spec_interchangeref2_IsTag _); (any_goals ((repeat' (first | rfl)); done)); intro x hm) | ((with_reducible apply O_w); (simp only [push_cast, seval]; rfl); (first | exact trivial)) | ((with_reducible apply S_condB hm); (simp only [push_cast, seval]; rfl); intro hm; rotate_left; intro hm) | ((with_reducible apply K_bool hm); (simp only [push_cast, seval]; rfl)) | ((with_reducible apply K_leave hm); intro r hm) | ((apply S_loopY (b := 0) (X := sc_interchange_interchangeref2_cutter_tag_B1) (x := sc_interchange_interchangeref2_cutter_tag_L1) rfl (fun (c : SV) (s : (List UInt8) × Tapi_Marks × Int × Int × Bool) => st [(0, .ref 0 0), (3, c), (102, .ref 0 0)] [(0, .box (bT_Tinterchangeref2_cutter s.1 s.2.1 s.2.2.1 s.2.2.2.1 s.2.2.2.2))]) (c := _) (s0 := (_, _, _, _, _)) hm); (focus (first | (dsimp only; done))); (with_reducible refine Then.mk ?_ ?_)) | ((apply K_next (s' := (_, _, _, _, _)) hm); (focus (first | (dsimp only; done)))) | ((apply K_brk (s' := (_, _, _, _, _)) hm); (focus (first | (dsimp only; done)))) | (((with_reducible apply O_pM hm (id := 0) (ms := [.sh, .sh, .sh, .sh, .sh, .sh, .sh, .sh, .sh])); (focus (exact Imp.refl _)); (focus (simp only [push_cast, seval]; (try rfl); done)); (focus (simp only [push_cast, seval]; (try rfl); done)); (focus (simp only [push_cast, seval]; (try rfl); done)); (focus ((repeat' (first | (with_reducible first | apply oT_Tinterchangeref2_cutter | apply cT_Tapi_Marks) | ((with_reducible apply svle_eq); (focus (first | rfl)); (focus ((repeat' (first | rfl)); done))))); done)); (focus rfl); (first | apply spec_interchange_interchangeref2_cutter_stop _ _); (any_goals (focus ((repeat' (first | rfl)); done))); (focus (intro _; exact ⟨rfl, rfl, rfl⟩)); intro y hm)) | (((with_reducible apply K_endP hm (ms := [.sh, .sh, .sh, .sh, .sh, .sh, .sh, .sh, .sh])); (focus (exact Imp.refl _)); (focus (simp only [push_cast, seval]; (try rfl); done)); (focus ((repeat' (first | (with_reducible first | apply oT_Tinterchangeref2_cutter | apply cT_Tapi_Marks) | ((with_reducible apply svle_eq); (focus (first | rfl)); (focus ((repeat' (first | rfl)); done))))); done)); (focus (intro _; rfl)); (focus (simp only [push_cast, seval]; (try rfl); done)); (focus (simp only [push_cast, seval]; (try rfl); done)); (focus (simp only [push_cast, seval]; (try rfl); done)); (focus (simp only [push_cast, seval]; (try rfl); done)); (focus (first | (apply he_1; (focus ((repeat' (first | rfl)); done))))))) | (((with_reducible apply LoopB.of); (focus (first | (dsimp only; done))); (focus ((intro _; repeat' (first | with_reducible exact impC_endF | with_reducible refine impC_seq ?_)))); (intro s o hm; first | unfold sc_interchange_interchangeref2_cutter_tag_L1); rotate_left; intro s hm)) | (((apply imp_stT; (repeat' (first | with_reducible exact keepT_nil | with_reducible exact keepC_nil | with_reducible apply keepT_cons | with_reducible apply keepC_cons | ((with_reducible apply svle_eq); (focus (first | (simp only [push_cast, seval]; rfl))); (focus ((repeat' (first | rfl)); done))) | ((with_reducible apply chle_eq); (focus (first | (simp only [push_cast, seval]; rfl))); (first | with_reducible exact chle_rfl rfl)))); done))))
noncomputable def m_interchange_interchangeref2_cutter_tag (x0 : Tinterchangeref2_cutter) : Option (((List UInt8)) × Tinterchangeref2_cutter) := (sims_G3_1_0 x0).1
theorem spec_interchange_interchangeref2_cutter_tag (x0 : Tinterchangeref2_cutter) : ∀ r, m_interchange_interchangeref2_cutter_tag x0 = some r → FSpec Tryd.prog 40 (.own (.pt [.sh, .sh, .sh, .sh, .sh, .sh, .sh, .sh, .sh]) (.ptr (rTinterchangeref2_cutter x0)) :: List.map SV.d ([] : List DV)) (.d (.str r.1)) (.own (.pt [.sh, .sh, .sh, .sh, .sh, .sh, .sh, .sh, .sh]) (.ptr (rTinterchangeref2_cutter r.2)) :: List.map SV.d ([] : List DV)) := (sims_G3_1_0 x0).2

def sc_interchange_interchangeref2_cutter_text_L1 : SC :=
  (.seq (.seq (.reg [.r 5 (.mv (.t 0)),
     .r 6 (.nilc (.t 5)),
     .r 7 (.fld 7 (.t 6)),
     .o 8 (.ld1 (.t 7)),
     .r 9 (.bin .lss (.t 8) (.c (.d (.int .i64 0))))])
  (.cond (.t 9)
    .skip
    (.exit 0)))
  (.block 1 (.seq (.seq (.regD [.r 10 (.mv (.t 0)),
       .r 11 (.nilc (.t 10)),
       .r 12 (.fld 6 (.t 11)),
       .r 13 (.ld1 (.t 12)),
       .r 14 (.mv (.t 0)),
       .r 15 (.nilc (.t 14)),
       .r 16 (.fld 0 (.t 15)),
       .r 17 (.ld1 (.t 16)),
       .r 18 (.len (.t 17)),
       .r 19 (.bin .eql (.t 13) (.t 18))])
    (.cond (.t 19)
      (.seq (.reg [.r 20 (.mv (.t 0)),
         .r 21 (.mv (.t 0)),
         .r 22 (.nilc (.t 21)),
         .r 23 (.fld 0 (.t 22)),
         .o 24 (.ld1 (.t 23)),
         .r 25 (.len (.t 24)),
         .p (some 26) (.f 24) [.t 20, .t 25]])
      (.exit 0))
      .skip))
    (.seq (.regD [.r 27 (.mv (.t 0)),
       .r 28 (.nilc (.t 27)),
       .r 29 (.fld 0 (.t 28)),
       .r 30 (.ld1 (.t 29)),
       .r 31 (.mv (.t 0)),
       .r 32 (.nilc (.t 31)),
       .r 33 (.fld 6 (.t 32)),
       .r 34 (.ld1 (.t 33)),
       .r 35 (.idx 1 (.t 30) (.t 34)),
       .r 36 (.ld1 (.t 35)),
       .r 4 (.mv (.t 36))])
    (.seq (.seq (.reg (.r 37 (.mv (.t 0)) :: .r 38 (.nilc (.t 37)) :: .r 39 (.fld 1 (.t 38)) :: .r 40 (.fld 3 (.t 39)) :: .o 41 (.ld1 (.t 40)) :: .r 42 (.bin .neq (.t 41) (.c (.d (.int .u8 0)))) :: .r 43 (.mv (.t 42)) :: gapp [44, 45, 46, 47, 48, 49, 50] 43 true (.r 44 (.mv (.t 4)) :: .r 45 (.mv (.t 0)) :: .r 46 (.nilc (.t 45)) :: .r 47 (.fld 1 (.t 46)) :: .r 48 (.fld 3 (.t 47)) :: .r 49 (.ld1 (.t 48)) :: .r 50 (.bin .eql (.t 44) (.t 49)) :: []) (.r 51 (.pick (.t 43) (.t 50) (.c (.d (.bool false)))) :: [])))
    (.cond (.t 51)
      (.seq (.seq (.regD [.r 52 (.mv (.t 0)),
         .r 53 (.nilc (.t 52)),
         .r 54 (.fld 6 (.t 53)),
         .r 55 (.ld1 (.t 54)),
         .r 56 (.bin .add (.t 55) (.c (.d (.int .i64 1)))),
         .r 57 (.mv (.t 0)),
         .r 58 (.nilc (.t 57)),
         .r 59 (.fld 0 (.t 58)),
         .r 60 (.ld1 (.t 59)),
         .r 61 (.len (.t 60)),
         .r 62 (.bin .eql (.t 56) (.t 61))])
      (.cond (.t 62)
        (.reg [.r 63 (.mv (.t 0)),
           .r 64 (.mv (.t 0)),
           .r 65 (.nilc (.t 64)),
           .r 66 (.fld 0 (.t 65)),
           .o 67 (.ld1 (.t 66)),
           .r 68 (.len (.t 67)),
           .p (some 69) (.f 24) [.t 63, .t 68]])
        (.seq (.regD [.r 70 (.mv (.t 0)),
           .r 71 (.nilc (.t 70)),
           .r 72 (.fld 1 (.t 71)),
           .r 73 (.ldA 5 (.t 72)),
           .r 74 (.mv (.t 0)),
           .r 75 (.nilc (.t 74)),
           .r 76 (.fld 0 (.t 75)),
           .r 77 (.ld1 (.t 76)),
           .r 78 (.mv (.t 0)),
           .r 79 (.nilc (.t 78)),
           .r 80 (.fld 6 (.t 79)),
           .r 81 (.ld1 (.t 80)),
           .r 82 (.bin .add (.t 81) (.c (.d (.int .i64 1)))),
           .r 83 (.idx 1 (.t 77) (.t 82)),
           .r 84 (.ld1 (.t 83)),
           .c 85 (.f 55) [.t 73, .t 84],
           .r 86 (.not (.t 85))])
        (.cond (.t 86)
          (.reg [.r 87 (.mv (.t 0)),
             .r 88 (.mv (.t 0)),
             .r 89 (.nilc (.t 88)),
             .r 90 (.fld 6 (.t 89)),
             .o 91 (.ld1 (.t 90)),
             .r 92 (.bin .add (.t 91) (.c (.d (.int .i64 1)))),
             .p (some 93) (.f 24) [.t 87, .t 92]])
          (.seq (.regE [.r 94 (.mv (.t 3)),
             .r 95 (.mv (.t 0)),
             .r 96 (.nilc (.t 95)),
             .r 97 (.fld 0 (.t 96)),
             .r 98 (.ld1 (.t 97)),
             .r 99 (.mv (.t 0)),
             .r 100 (.nilc (.t 99)),
             .r 101 (.fld 6 (.t 100)),
             .r 102 (.ld1 (.t 101)),
             .r 103 (.bin .add (.t 102) (.c (.d (.int .i64 1)))),
             .r 104 (.idx 1 (.t 98) (.t 103)),
             .r 105 (.ld1 (.t 104)),
             .r 106 (.bslice 1 [.t 105]),
             .x 107 (.app 5 1 (.t 94) (.t 106)) [],
             .r 3 (.mv (.t 107))])
          (.reg [.r 108 (.mv (.t 0)),
             .r 109 (.nilc (.t 108)),
             .r 110 (.fld 6 (.t 109)),
             .o 111 (.ld1 (.t 110)),
             .r 112 (.bin .add (.t 111) (.c (.d (.int .i64 2)))),
             .r 113 (.nilc (.t 108)),
             .r 114 (.fld 6 (.t 113)),
             .w 0 (.st 1 (.t 114) (.t 112))]))))))
      (.exit 1))
      .skip))
    (.seq (.seq (.reg [.r 115 (.mv (.t 0)),
       .r 116 (.nilc (.t 115)),
       .r 117 (.fld 1 (.t 116)),
       .o 118 (.ldA 5 (.t 117)),
       .r 119 (.mv (.t 4)),
       .c 120 (.f 55) [.t 118, .t 119]])
    (.cond (.t 120)
      (.exit 0)
      .skip))
    (.seq (.seq (.reg (.r 121 (.mv (.t 4)) :: .r 122 (.bin .lss (.t 121) (.c (.d (.int .u8 32)))) :: .r 123 (.mv (.t 122)) :: gapp [124, 125] 123 false (.r 124 (.mv (.t 4)) :: .r 125 (.bin .gtr (.t 124) (.c (.d (.int .u8 126)))) :: []) (.r 126 (.pick (.t 123) (.c (.d (.bool true))) (.t 125)) :: [])))
    (.cond (.t 126)
      (.reg [.r 127 (.mv (.t 0)),
         .r 128 (.mv (.t 0)),
         .r 129 (.nilc (.t 128)),
         .r 130 (.fld 6 (.t 129)),
         .o 131 (.ld1 (.t 130)),
         .p (some 132) (.f 24) [.t 127, .t 131]])
      .skip))
    (.seq (.reg [.r 133 (.mv (.t 3)),
       .r 134 (.mv (.t 4)),
       .r 135 (.bslice 1 [.t 134]),
       .w 136 (.app 5 1 (.t 133) (.t 135)),
       .r 3 (.mv (.t 136))])
    (.reg [.r 137 (.mv (.t 0)),
       .r 138 (.nilc (.t 137)),
       .r 139 (.fld 6 (.t 138)),
       .o 140 (.ld1 (.t 139)),
       .r 141 (.bin .add (.t 140) (.c (.d (.int .i64 1)))),
       .r 142 (.nilc (.t 137)),
       .r 143 (.fld 6 (.t 142)),
       .w 0 (.st 1 (.t 143) (.t 141))])))))))))
def sc_interchange_interchangeref2_cutter_text_B1 : SC := .block 0 (.loop sc_interchange_interchangeref2_cutter_text_L1)
/-- (*interchange/interchangeref2.cutter).text -/
def sc_interchange_interchangeref2_cutter_text : SC :=
  (.seq (.reg [.r 2 (.mv (.c (.d (.str []))))])
  (.seq (.reg [.r 3 (.mv (.c (.nils)))])
  (.seq sc_interchange_interchangeref2_cutter_text_B1
  (.seq (.reg [.r 144 (.mv (.t 3)),
     .r 145 (.cvbs (.t 144)),
     .r 2 (.mv (.t 145))])
  .ret))))
theorem fit_interchange_interchangeref2_cutter_text : fits Tryd.prog 41 Tryd.f41 sc_interchange_interchangeref2_cutter_text [.t 2] 1 = true := by kernel_rfl

set_option maxRecDepth 100000 in
set_option maxHeartbeats 40000000 in
noncomputable def sims_G3_1_1 : (∀ (x0 : Tinterchangeref2_cutter), {m : Option (((List UInt8)) × Tinterchangeref2_cutter) // ∀ r, m = some r → FSpec Tryd.prog 41 (.own (.pt [.sh, .sh, .sh, .sh, .sh, .sh, .sh, .sh, .sh]) (.ptr (rTinterchangeref2_cutter x0)) :: List.map SV.d ([] : List DV)) (.d (.str r.1)) (.own (.pt [.sh, .sh, .sh, .sh, .sh, .sh, .sh, .sh, .sh]) (.ptr (rTinterchangeref2_cutter r.2)) :: List.map SV.d ([] : List DV))}) := by
  (intro x0; apply Subtype.mk; intro r hm; apply fspec_walk1 (N := 146) (k := 1) Tryd.func41 fit_interchange_interchangeref2_cutter_text (by kernel_rfl) rfl rfl (by decide); unfold sc_interchange_interchangeref2_cutter_text)
  repeat' (first | with_reducible refine W_seq ?_ | with_reducible refine W_reg ?_ | with_reducible refine W_regD ?_ | with_reducible refine W_regE ?_ | with_reducible refine W_block ?_ | with_reducible refine W_skip ?_ | with_reducible refine W_ret ?_ | with_reducible refine W_exit ?_ | with_reducible refine O_nil ?_ | with_reducible refine K_seq ?_ | with_reducible refine K_seqE ?_ | with_reducible refine K_block ?_ | with_reducible refine K_blockE ?_ | ((with_reducible apply K_blockN); decide) | with_reducible refine O_o2r ?_ | ((with_reducible apply O_idxr hm); (iterate 2 (simp only [push_cast, seval]; rfl)); (intro _; rfl); intro e hm) | ((with_reducible apply O_cvbsV); (iterate 2 (simp only [push_cast, seval]; rfl))) | ((with_reducible apply O_r); (simp only [push_cast, seval]; rfl); (first | exact trivial)) | ((with_reducible apply O_and hm); (simp only [push_cast, seval]; rfl); rfl; intro v hm; rotate_left; intro v g hm) | ((with_reducible apply O_or hm); (simp only [push_cast, seval]; rfl); rfl; intro v hm; rotate_left; intro v g hm) | ((with_reducible apply O_cF hm); (simp only [push_cast, seval]; rfl); (first | apply spec_interchangeref2_isMark _ _); (any_goals ((repeat' (first | rfl)); done)); intro x hm) | ((with_reducible apply O_w); (simp only [push_cast, seval]; rfl); (first | exact trivial)) | ((with_reducible apply O_appV hm); (iterate 4 (simp only [push_cast, seval]; rfl)); (focus ((repeat' (first | rfl | (with_reducible first | apply dv_slice | apply fold_nil | apply fold_cons))); done)); decide; (intro _; rfl); intro hm) | ((with_reducible apply O_appVX hm); (iterate 2 (simp only [push_cast, seval]; rfl)); (focus ((repeat' (first | rfl)); done)); (simp only [push_cast, seval]; rfl); (focus ((repeat' (first | rfl | (with_reducible first | apply eR_nil | apply eR_cons))); done)); (intro _; rfl); (focus ((repeat' (first | exact Rer_nil)); done)); intro hm) | ((with_reducible apply S_condB hm); (simp only [push_cast, seval]; rfl); intro hm; rotate_left; intro hm) | ((with_reducible apply K_bool hm); (simp only [push_cast, seval]; rfl)) | ((with_reducible apply K_leave hm); intro r hm) | ((apply S_loopY (b := 0) (X := sc_interchange_interchangeref2_cutter_text_B1) (x := sc_interchange_interchangeref2_cutter_text_L1) rfl (fun (c : Unit) (s : (List UInt8) × Tapi_Marks × Int × Int × Bool × (List UInt8)) => st [(0, .ref 0 0), (3, .vec 3), (146, .ref 0 0)] [(0, .box (bT_Tinterchangeref2_cutter s.1 s.2.1 s.2.2.1 s.2.2.2.1 s.2.2.2.2.1)), (3, .vec 5 1 (vrow rowY s.2.2.2.2.2))]) (c := ()) (s0 := (_, _, _, _, _, _)) hm); (focus (first | (dsimp only; done))); (with_reducible refine Then.mk ?_ ?_); apply Imp.trans; (focus (apply imp_vecnil (slot := 3) (id := 3) (e := 5) (sz := 1); (focus (simp only [push_cast, seval]; done))))) | ((apply K_next (s' := (_, _, _, _, _, _)) hm); (focus (first | (dsimp only; done)))) | ((apply K_brk (s' := (_, _, _, _, _, _)) hm); (focus (first | (dsimp only; done)))) | (((with_reducible apply O_pM hm (id := 0) (ms := [.sh, .sh, .sh, .sh, .sh, .sh, .sh, .sh, .sh])); (focus (exact Imp.refl _)); (focus (simp only [push_cast, seval]; (try rfl); done)); (focus (simp only [push_cast, seval]; (try rfl); done)); (focus (simp only [push_cast, seval]; (try rfl); done)); (focus ((repeat' (first | (with_reducible first | apply oT_Tinterchangeref2_cutter | apply cT_Tapi_Marks) | ((with_reducible apply svle_eq); (focus (first | rfl)); (focus ((repeat' (first | rfl)); done))))); done)); (focus rfl); (first | apply spec_interchange_interchangeref2_cutter_stop _ _); (any_goals (focus ((repeat' (first | rfl)); done))); (focus (intro _; exact ⟨rfl, rfl, rfl⟩)); intro y hm)) | (((with_reducible apply K_endP hm (ms := [.sh, .sh, .sh, .sh, .sh, .sh, .sh, .sh, .sh])); (focus (exact Imp.refl _)); (focus (simp only [push_cast, seval]; (try rfl); done)); (focus ((repeat' (first | (with_reducible first | apply oT_Tinterchangeref2_cutter | apply cT_Tapi_Marks) | ((with_reducible apply svle_eq); (focus (first | rfl)); (focus ((repeat' (first | rfl)); done))))); done)); (focus (intro _; rfl)); (focus (simp only [push_cast, seval]; (try rfl); done)); (focus (simp only [push_cast, seval]; (try rfl); done)); (focus (simp only [push_cast, seval]; (try rfl); done)); (focus (simp only [push_cast, seval]; (try rfl); done)); (focus (first | (apply he_1; (focus ((repeat' (first | rfl)); done))))))) | (((with_reducible apply LoopB.of); (focus (first | (dsimp only; done))); (focus ((intro _; repeat' (first | with_reducible exact impC_endF | with_reducible refine impC_seq ?_)))); (intro s o hm; first | unfold sc_interchange_interchangeref2_cutter_text_L1); rotate_left; intro s hm)) | (((apply imp_stT; (repeat' (first | with_reducible exact keepT_nil | with_reducible exact keepC_nil | with_reducible apply keepT_cons | with_reducible apply keepC_cons | ((with_reducible apply svle_eq); (focus (first | (simp only [push_cast, seval]; rfl))); (focus ((repeat' (first | rfl)); done))) | ((with_reducible apply chle_eq); (focus (first | (simp only [push_cast, seval]; rfl))); (first | with_reducible exact chle_rfl rfl | with_reducible apply chle_vec)) | (with_reducible first | apply r_nil))); done))))
noncomputable def m_interchange_interchangeref2_cutter_text (x0 : Tinterchangeref2_cutter) : Option (((List UInt8)) × Tinterchangeref2_cutter) := (sims_G3_1_1 x0).1
theorem spec_interchange_interchangeref2_cutter_text (x0 : Tinterchangeref2_cutter) : ∀ r, m_interchange_interchangeref2_cutter_text x0 = some r → FSpec Tryd.prog 41 (.own (.pt [.sh, .sh, .sh, .sh, .sh, .sh, .sh, .sh, .sh]) (.ptr (rTinterchangeref2_cutter x0)) :: List.map SV.d ([] : List DV)) (.d (.str r.1)) (.own (.pt [.sh, .sh, .sh, .sh, .sh, .sh, .sh, .sh, .sh]) (.ptr (rTinterchangeref2_cutter r.2)) :: List.map SV.d ([] : List DV)) := (sims_G3_1_1 x0).2

end Go.Proofs.YtfbhhhghjehjjaaDoor

/-
  Bodies of functions and what they compute, printed by programs of mine (wip/tool/gen.py, sc.py) out of the translation; the kernel holds each against the translation.
-/
namespace Go.Proofs.YtfbhhhghjehjjaaDoor
open Go.RowKit
set_option linter.unusedSimpArgs false
set_option linter.unusedVariables false
def bT_Tapi_Segment (p0 : List UInt8) (p1 : Nat) : List SV := [.d (.str p0)] ++ ([.vec p1])
attribute [push_cast] bT_Tapi_Segment
def sc_interchange_wire_cutter_segment_L1 : SC :=
  (.seq (.seq (.regD [.r 31 (.mv (.t 0)),
     .r 32 (.nilc (.t 31)),
     .r 33 (.fld 5 (.t 32)),
     .r 34 (.ld1 (.t 33)),
     .r 35 (.mv (.t 0)),
     .r 36 (.nilc (.t 35)),
     .r 37 (.fld 6 (.t 36)),
     .r 38 (.ld1 (.t 37)),
     .r 39 (.idx 1 (.t 34) (.t 38)),
     .r 40 (.ld1 (.t 39)),
     .r 41 (.mv (.t 0)),
     .r 42 (.nilc (.t 41)),
     .r 43 (.fld 0 (.t 42)),
     .r 44 (.fld 0 (.t 43)),
     .r 45 (.ld1 (.t 44)),
     .r 46 (.bin .eql (.t 40) (.t 45))])
  (.cond (.t 46)
    .skip
    (.exit 0)))
  (.block 1 (.seq (.reg [.r 47 (.mv (.t 0)),
       .r 48 (.nilc (.t 47)),
       .r 49 (.fld 6 (.t 48)),
       .o 50 (.ld1 (.t 49)),
       .r 51 (.bin .add (.t 50) (.c (.d (.int .i64 1)))),
       .r 52 (.nilc (.t 47)),
       .r 53 (.fld 6 (.t 52)),
       .w 0 (.st 1 (.t 53) (.t 51))])
    (.seq (.reg [.r 55 (.mv (.t 0)),
       .p (some 56) (.f 37) [.t 55],
       .r 54 (.mv (.t 56)),
       .r 57 (.ext (.t 54) 0),
       .r 58 (.ext (.t 54) 1),
       .w 6 (.boxM (.c (.agg [.nils]))),
       .w 0 (.st 1 (.t 6) (.t 57)),
       .r 7 (.mv (.t 58))])
    (.seq (.seq (.reg [.r 59 (.mv (.t 7)),
       .r 60 (.not (.t 59))])
    (.cond (.t 60)
      (.seq (.reg [.r 2 (.mv (.c (.d (.bool false))))])
      .ret)
      .skip))
    (.reg [.r 61 (.fld 1 (.t 5)),
       .o 62 (.ld1 (.t 61)),
       .o 63 (.ldA 1 (.t 6)),
       .r 64 (.bslice 1 [.t 63]),
       .w 65 (.app 64 1 (.t 62) (.t 64)),
       .r 66 (.fld 1 (.t 5)),
       .w 0 (.st 1 (.t 66) (.t 65))]))))))
def sc_interchange_wire_cutter_segment_B1 : SC := .block 0 (.loop sc_interchange_wire_cutter_segment_L1)
/-- (*interchange/wire.cutter).segment -/
def sc_interchange_wire_cutter_segment : SC :=
  (.seq (.reg [.r 2 (.mv (.c (.d (.bool false))))])
  (.seq (.regE [.r 9 (.mv (.t 0)),
     .r 10 (.mv (.t 0)),
     .r 11 (.nilc (.t 10)),
     .r 12 (.fld 8 (.t 11)),
     .r 13 (.ld1 (.t 12)),
     .r 14 (.mv (.t 0)),
     .r 15 (.nilc (.t 14)),
     .r 16 (.fld 6 (.t 15)),
     .r 17 (.ld1 (.t 16)),
     .r 18 (.bslice 1 [.t 17]),
     .x 19 (.app 3 1 (.t 13) (.t 18)) [(0, 9, .mv (.t 0))],
     .r 20 (.nilc (.t 9)),
     .r 21 (.fld 8 (.t 20)),
     .x 0 (.st 1 (.t 21) (.t 19)) []])
  (.seq (.reg [.r 23 (.mv (.t 0)),
     .p (some 24) (.f 36) [.t 23],
     .r 22 (.mv (.t 24)),
     .r 25 (.ext (.t 22) 0),
     .r 26 (.ext (.t 22) 1),
     .r 3 (.mv (.t 25)),
     .r 4 (.mv (.t 26))])
  (.seq (.seq (.reg [.r 27 (.mv (.t 4)),
     .r 28 (.not (.t 27))])
  (.cond (.t 28)
    (.seq (.reg [.r 2 (.mv (.c (.d (.bool false))))])
    .ret)
    .skip))
  (.seq (.reg [.r 29 (.mv (.t 3)),
     .r 30 (.build [.d (.str []), .nils] [(0, 1, .t 29)]),
     .w 5 (.boxM (.c (.agg [.d (.str []), .nils]))),
     .w 0 (.st 2 (.t 5) (.t 30))])
  (.seq sc_interchange_wire_cutter_segment_B1
  (.seq (.reg [.r 67 (.mv (.t 0)),
     .r 68 (.nilc (.t 67)),
     .r 69 (.fld 6 (.t 68)),
     .o 70 (.ld1 (.t 69)),
     .r 71 (.bin .add (.t 70) (.c (.d (.int .i64 1)))),
     .r 72 (.nilc (.t 67)),
     .r 73 (.fld 6 (.t 72)),
     .w 0 (.st 1 (.t 73) (.t 71))])
  (.seq (.regD (.r 74 (.mv (.t 0)) :: .r 75 (.nilc (.t 74)) :: .r 76 (.fld 6 (.t 75)) :: .r 77 (.ld1 (.t 76)) :: .r 78 (.mv (.t 0)) :: .r 79 (.nilc (.t 78)) :: .r 80 (.fld 5 (.t 79)) :: .r 81 (.ld1 (.t 80)) :: .r 82 (.len (.t 81)) :: .r 83 (.bin .lss (.t 77) (.t 82)) :: .r 84 (.mv (.t 83)) :: gapp [85, 86, 87, 88, 89, 90, 91, 92, 93, 94, 95] 84 true (.r 85 (.mv (.t 0)) :: .r 86 (.nilc (.t 85)) :: .r 87 (.fld 5 (.t 86)) :: .r 88 (.ld1 (.t 87)) :: .r 89 (.mv (.t 0)) :: .r 90 (.nilc (.t 89)) :: .r 91 (.fld 6 (.t 90)) :: .r 92 (.ld1 (.t 91)) :: .r 93 (.idx 1 (.t 88) (.t 92)) :: .r 94 (.ld1 (.t 93)) :: .r 95 (.bin .eql (.t 94) (.c (.d (.int .u8 10)))) :: []) (.r 96 (.pick (.t 84) (.t 95) (.c (.d (.bool false)))) :: .r 8 (.mv (.t 96)) :: [])))
  (.seq (.seq (.reg [.r 97 (.mv (.t 0)),
     .r 98 (.nilc (.t 97)),
     .r 99 (.fld 7 (.t 98)),
     .o 100 (.ld1 (.t 99)),
     .r 101 (.len (.t 100)),
     .r 102 (.bin .eql (.t 101) (.c (.d (.int .i64 0))))])
  (.cond (.t 102)
    (.reg [.r 103 (.mv (.t 0)),
       .r 104 (.mv (.t 8)),
       .r 105 (.nilc (.t 103)),
       .r 106 (.fld 9 (.t 105)),
       .w 0 (.st 1 (.t 106) (.t 104))])
    .skip))
  (.seq (.regE [.r 107 (.mv (.t 0)),
     .r 108 (.mv (.t 0)),
     .r 109 (.nilc (.t 108)),
     .r 110 (.fld 7 (.t 109)),
     .r 111 (.ld1 (.t 110)),
     .r 112 (.ldA 2 (.t 5)),
     .r 113 (.bslice 2 [.t 112]),
     .x 114 (.app 46 2 (.t 111) (.t 113)) [(0, 107, .mv (.t 0))],
     .r 115 (.nilc (.t 107)),
     .r 116 (.fld 7 (.t 115)),
     .x 0 (.st 1 (.t 116) (.t 114)) []])
  (.seq (.seq (.reg (.r 117 (.mv (.t 0)) :: .r 118 (.nilc (.t 117)) :: .r 119 (.fld 9 (.t 118)) :: .o 120 (.ld1 (.t 119)) :: .r 121 (.mv (.t 120)) :: gapp [122, 123] 121 true (.r 122 (.mv (.t 8)) :: .r 123 (.not (.t 122)) :: []) (.r 124 (.pick (.t 121) (.t 123) (.c (.d (.bool false)))) :: [])))
  (.cond (.t 124)
    (.seq (.reg [.r 2 (.mv (.c (.d (.bool false))))])
    .ret)
    .skip))
  (.seq (.seq (.reg [.r 125 (.mv (.t 0)),
     .r 126 (.nilc (.t 125)),
     .r 127 (.fld 9 (.t 126)),
     .o 128 (.ld1 (.t 127))])
  (.cond (.t 128)
    (.reg [.r 129 (.mv (.t 0)),
       .r 130 (.nilc (.t 129)),
       .r 131 (.fld 6 (.t 130)),
       .o 132 (.ld1 (.t 131)),
       .r 133 (.bin .add (.t 132) (.c (.d (.int .i64 1)))),
       .r 134 (.nilc (.t 129)),
       .r 135 (.fld 6 (.t 134)),
       .w 0 (.st 1 (.t 135) (.t 133))])
    .skip))
  (.seq (.reg [.r 2 (.mv (.c (.d (.bool true))))])
  .ret)))))))))))))
theorem fit_interchange_wire_cutter_segment : fits Tryd.prog 20 Tryd.f20 sc_interchange_wire_cutter_segment [.t 2] 1 = true := by kernel_rfl

set_option maxRecDepth 100000 in
set_option maxHeartbeats 40000000 in
noncomputable def sims_G4_0_0 : (∀ (x0 : Twire_cutter), {m : Option ((Bool) × Twire_cutter) // ∀ r, m = some r → FSpec Tryd.prog 20 (.own (.pt [.sh, .sh, .sh, .sh, .sh, .sh, .sh, .sl 46 (List.replicate 2 .sh), .sl 3 (List.replicate 1 .sh), .sh]) (.ptr (rTwire_cutter x0)) :: List.map SV.d ([] : List DV)) (.d (.bool r.1)) (.own (.pt [.sh, .sh, .sh, .sh, .sh, .sh, .sh, .sl 46 (List.replicate 2 .sh), .sl 3 (List.replicate 1 .sh), .sh]) (.ptr (rTwire_cutter r.2)) :: List.map SV.d ([] : List DV))}) := by
  (intro x0; apply Subtype.mk; intro r hm; apply fspec_walk1 (N := 136) (k := 1) Tryd.func20 fit_interchange_wire_cutter_segment (by kernel_rfl) rfl rfl (by decide); unfold sc_interchange_wire_cutter_segment)
  repeat' (first | ((with_reducible apply W_openBs (id := 0) (cid := 1007) (off := 7) (n := 2) (e := 46)); (focus (simp only [push_cast, seval]; (try rfl); done)); (focus (simp only [push_cast, seval]; (try rfl); done)); (focus decide); (focus rfl); (focus (intro _; rfl)); (focus (simp only [push_cast, seval]; (try rfl); done))) | ((with_reducible apply W_openBs (id := 0) (cid := 1008) (off := 8) (n := 1) (e := 3)); (focus (simp only [push_cast, seval]; (try rfl); done)); (focus (simp only [push_cast, seval]; (try rfl); done)); (focus decide); (focus rfl); (focus (intro _; rfl)); (focus (simp only [push_cast, seval]; (try rfl); done))) | ((with_reducible apply W_nilB (id := 5) (cid := 1161) (off := 1) (n := 1) (e := 64)); (focus (simp only [push_cast, seval]; (try rfl); done)); (focus (simp only [push_cast, seval]; (try rfl); done)); (focus decide); (focus (simp only [push_cast, seval]; (try rfl); done))) | with_reducible refine W_seq ?_ | with_reducible refine W_reg ?_ | with_reducible refine W_regD ?_ | with_reducible refine W_regE ?_ | with_reducible refine W_block ?_ | with_reducible refine W_skip ?_ | with_reducible refine W_ret ?_ | with_reducible refine W_exit ?_ | with_reducible refine O_nil ?_ | with_reducible refine K_seq ?_ | with_reducible refine K_seqE ?_ | with_reducible refine K_seqR ?_ | with_reducible refine K_block ?_ | with_reducible refine K_blockR ?_ | with_reducible refine O_o2r ?_ | ((with_reducible apply O_idxr hm); (iterate 2 (simp only [push_cast, seval]; rfl)); (intro _; rfl); intro e hm) | ((with_reducible apply O_r); (simp only [push_cast, seval]; rfl); (first | exact trivial)) | ((with_reducible apply O_and hm); (simp only [push_cast, seval]; rfl); rfl; intro v hm; rotate_left; intro v g hm) | ((with_reducible apply O_w); (simp only [push_cast, seval]; rfl); (first | exact trivial)) | ((with_reducible apply O_appV hm); (iterate 4 (simp only [push_cast, seval]; rfl)); (focus ((repeat' (first | rfl | (with_reducible first | apply dv_slice | apply fold_nil | apply fold_cons))); done)); decide; (intro _; rfl); intro hm) | ((with_reducible apply O_appVX hm); (iterate 2 (simp only [push_cast, seval]; rfl)); (focus ((repeat' (first | rfl)); done)); (simp only [push_cast, seval]; rfl); (focus ((repeat' (first | rfl | (with_reducible first | apply eR_nil | apply eR_cons | apply eT_Tapi_Segment))); done)); (intro _; rfl); (focus ((repeat' (first | exact Rer_nil | ((with_reducible apply Rer_cons); (focus (simp only [push_cast, seval]; rfl)); (focus (first | exact trivial)); (focus (simp only [push_cast, seval]))))); done)); intro hm) | ((with_reducible apply O_appX2 hm); (iterate 4 (simp only [push_cast, seval]; rfl)); rfl; (focus ((repeat' (first | exact Rer_nil | ((with_reducible apply Rer_cons); (focus (simp only [push_cast, seval]; rfl)); (focus (first | exact trivial)); (focus (simp only [push_cast, seval]))))); done)); intro hm) | ((with_reducible apply O_x); (simp only [push_cast, seval]; rfl); (first | exact trivial); (focus ((repeat' (first | exact Rer_nil)); done))) | ((with_reducible apply S_condB hm); (simp only [push_cast, seval]; rfl); intro hm; rotate_left; intro hm) | ((with_reducible apply K_bool hm); (simp only [push_cast, seval]; rfl)) | ((with_reducible apply K_leave hm); intro r hm) | ((with_reducible apply K_leaveR hm); intro r hm) | ((apply S_loopY (b := 0) (X := sc_interchange_wire_cutter_segment_B1) (x := sc_interchange_wire_cutter_segment_L1) rfl (fun (c : Unit) (s : Tapi_Marks × (List UInt8) × Int × (List Tapi_Segment) × (List Int) × Bool × (List UInt8) × (List Tapi_Element)) => st [(0, .ref 0 0), (5, .ref 5 0), (136, .ref 0 0)] [(1007, .vec 46 2 (vrow rTapi_Segment s.2.2.2.1)), (1008, .vec 3 1 (vrow rowI s.2.2.2.2.1)), (0, .box (bT_Twire_cutter s.1 s.2.1 s.2.2.1 1007 1008 s.2.2.2.2.2.1)), (1161, .vec 64 1 (vrow rTapi_Element s.2.2.2.2.2.2.2)), (5, .box (bT_Tapi_Segment s.2.2.2.2.2.2.1 1161))]) (c := ()) (s0 := (_, _, _, _, _, _, _, _)) hm); (focus (first | (dsimp only; done))); (with_reducible refine Then.mk ?_ ?_)) | ((apply K_next (s' := (_, _, _, _, _, _, _, _)) hm); (focus (first | (dsimp only; done)))) | ((apply K_brk (s' := (_, _, _, _, _, _, _, _)) hm); (focus (first | (dsimp only; done)))) | (((with_reducible apply K_brkR hm); intro r hm)) | (((with_reducible apply O_pM hm (id := 0) (ms := [.sh, .sh, .sh, .sh, .sh, .sh, .sh, .sl 46 (List.replicate 2 .sh), .sl 3 (List.replicate 1 .sh), .sh])); (focus ((try ((apply Imp.trans); (focus ((apply imp_closeBs (id := 0) (cid := 1007) (off := 7) (n := 2) (e := 46)); (focus (simp only [push_cast, seval]; (try rfl); done)); (focus (simp only [push_cast, seval]; (try rfl); done)); (focus decide); (focus (simp only [push_cast, seval]; (try rfl); done)); (focus ((repeat' (first | (with_reducible first | apply r_rfl))); done)); (focus (intro _; rfl)); (focus (simp only [push_cast, seval]; (try rfl); done)))))); (try ((apply Imp.trans); (focus ((apply imp_closeBs (id := 0) (cid := 1008) (off := 8) (n := 1) (e := 3)); (focus (simp only [push_cast, seval]; (try rfl); done)); (focus (simp only [push_cast, seval]; (try rfl); done)); (focus decide); (focus (simp only [push_cast, seval]; (try rfl); done)); (focus ((repeat' (first | (with_reducible first | apply r_rfl))); done)); (focus (intro _; rfl)); (focus (simp only [push_cast, seval]; (try rfl); done)))))); exact Imp.refl _)); (focus (simp only [push_cast, seval]; (try rfl); done)); (focus (simp only [push_cast, seval]; (try rfl); done)); (focus (simp only [push_cast, seval]; (try rfl); done)); (focus ((repeat' (first | (with_reducible first | apply oT_Twire_cutter | apply cT_Tapi_Marks) | ((with_reducible apply svle_eq); (focus (first | rfl)); (focus ((repeat' (first | rfl)); done))) | ((with_reducible apply cle_own); (focus rfl); (focus ((repeat' (first | rfl)); done))))); done)); (focus rfl); (first | apply spec_interchange_wire_cutter_tag _ | apply spec_interchange_wire_cutter_element _); (any_goals (focus ((repeat' (first | rfl)); done))); (focus (intro _; exact ⟨rfl, rfl, rfl⟩)); intro y hm)) | (((with_reducible apply K_endP hm (ms := [.sh, .sh, .sh, .sh, .sh, .sh, .sh, .sl 46 (List.replicate 2 .sh), .sl 3 (List.replicate 1 .sh), .sh])); (focus ((try ((apply Imp.trans); (focus ((apply imp_freeze (id := 1161)); (focus (simp only [push_cast, seval]; (try rfl); done)); (focus (simp only [push_cast, seval]; (try rfl); done)))))); (try ((apply Imp.trans); (focus ((apply imp_closeBs (id := 0) (cid := 1007) (off := 7) (n := 2) (e := 46)); (focus (simp only [push_cast, seval]; (try rfl); done)); (focus (simp only [push_cast, seval]; (try rfl); done)); (focus decide); (focus (simp only [push_cast, seval]; (try rfl); done)); (focus ((repeat' (first | (with_reducible first | apply cT_Tapi_Segment | apply r_rfl | apply r_nil | apply r_app | apply r_cons) | ((with_reducible apply svle_rfl); (focus ((repeat' (first | rfl)); done))))); done)); (focus (intro _; rfl)); (focus (simp only [push_cast, seval]; (try rfl); done)))))); (try ((apply Imp.trans); (focus ((apply imp_closeBs (id := 0) (cid := 1008) (off := 8) (n := 1) (e := 3)); (focus (simp only [push_cast, seval]; (try rfl); done)); (focus (simp only [push_cast, seval]; (try rfl); done)); (focus decide); (focus (simp only [push_cast, seval]; (try rfl); done)); (focus ((repeat' (first | (with_reducible first | apply r_rfl))); done)); (focus (intro _; rfl)); (focus (simp only [push_cast, seval]; (try rfl); done)))))); exact Imp.refl _)); (focus (simp only [push_cast, seval]; (try rfl); done)); (focus ((repeat' (first | (with_reducible first | apply oT_Twire_cutter | apply cT_Tapi_Marks) | ((with_reducible apply svle_eq); (focus (first | rfl)); (focus ((repeat' (first | rfl)); done))) | ((with_reducible apply cle_own); (focus rfl); (focus ((repeat' (first | rfl)); done))))); done)); (focus (intro _; rfl)); (focus (simp only [push_cast, seval]; (try rfl); done)); (focus (simp only [push_cast, seval]; (try rfl); done)); (focus (simp only [push_cast, seval]; (try rfl); done)); (focus (simp only [push_cast, seval]; (try rfl); done)); (focus (first | (apply he_1; (focus ((repeat' (first | rfl)); done))))))) | (((with_reducible apply LoopB.of); (focus (first | (dsimp only; done))); (focus ((intro _; repeat' (first | with_reducible exact impC_endF | with_reducible refine impC_seq ?_)))); (intro s o hm; first | unfold sc_interchange_wire_cutter_segment_L1); rotate_left; intro s hm)) | (((apply imp_stT; (repeat' (first | with_reducible exact keepT_nil | with_reducible exact keepC_nil | with_reducible apply keepT_cons | with_reducible apply keepC_cons | ((with_reducible apply svle_eq); (focus (first | (simp only [push_cast, seval]; rfl))); (focus ((repeat' (first | rfl)); done))) | ((with_reducible apply chle_eq); (focus (first | (simp only [push_cast, seval]; rfl))); (first | with_reducible exact chle_rfl rfl | with_reducible apply chle_vec)) | (with_reducible first | apply r_nil))); done))))
noncomputable def m_interchange_wire_cutter_segment (x0 : Twire_cutter) : Option ((Bool) × Twire_cutter) := (sims_G4_0_0 x0).1
theorem spec_interchange_wire_cutter_segment (x0 : Twire_cutter) : ∀ r, m_interchange_wire_cutter_segment x0 = some r → FSpec Tryd.prog 20 (.own (.pt [.sh, .sh, .sh, .sh, .sh, .sh, .sh, .sl 46 (List.replicate 2 .sh), .sl 3 (List.replicate 1 .sh), .sh]) (.ptr (rTwire_cutter x0)) :: List.map SV.d ([] : List DV)) (.d (.bool r.1)) (.own (.pt [.sh, .sh, .sh, .sh, .sh, .sh, .sh, .sl 46 (List.replicate 2 .sh), .sl 3 (List.replicate 1 .sh), .sh]) (.ptr (rTwire_cutter r.2)) :: List.map SV.d ([] : List DV)) := (sims_G4_0_0 x0).2

end Go.Proofs.YtfbhhhghjehjjaaDoor

/-
  Bodies of functions and what they compute, printed by programs of mine (wip/tool/gen.py, sc.py) out of the translation; the kernel holds each against the translation.
-/
namespace Go.Proofs.YtfbhhhghjehjjaaDoor
open Go.RowKit
set_option linter.unusedSimpArgs false
set_option linter.unusedVariables false
def sc_interchange_interchangeref2_cutter_segment_R10 : SC :=
  (.reg [.r 78 (.fld 1 (.t 3)),
   .o 79 (.ld1 (.t 78)),
   .r 80 (.mv (.t 6)),
   .r 81 (.bin .sub (.t 80) (.c (.d (.int .i64 1)))),
   .r 82 (.idx 1 (.t 79) (.t 81)),
   .o 83 (.ldA 1 (.t 82)),
   .w 7 (.boxM (.c (.agg [.nils]))),
   .w 0 (.st 1 (.t 7) (.t 83))])
def sc_interchange_interchangeref2_cutter_segment_R14 : SC :=
  (.regE [.r 101 (.fld 0 (.t 7)),
   .r 102 (.ld1 (.t 101)),
   .r 103 (.mv (.t 8)),
   .r 104 (.bin .sub (.t 103) (.c (.d (.int .i64 1)))),
   .r 105 (.fld 0 (.t 7)),
   .r 106 (.ld1 (.t 105)),
   .r 107 (.mv (.t 8)),
   .r 108 (.bin .sub (.t 107) (.c (.d (.int .i64 1)))),
   .r 109 (.idx 1 (.t 106) (.t 108)),
   .r 110 (.ld1 (.t 109)),
   .r 111 (.mv (.t 5)),
   .r 112 (.bslice 1 [.t 111]),
   .x 113 (.app 9 1 (.t 110) (.t 112)) [(0, 101, .fld 0 (.t 7)), (1, 102, .ld1 (.t 101)), (2, 103, .mv (.t 8)), (3, 104, .bin .sub (.t 103) (.c (.d (.int .i64 1))))],
   .r 114 (.idx 1 (.t 102) (.t 104)),
   .x 0 (.st 1 (.t 114) (.t 113)) []])
def sc_interchange_interchangeref2_cutter_segment_L1 : SC :=
  (.seq (.seq (.regD (.r 12 (.mv (.t 0)) :: .r 13 (.nilc (.t 12)) :: .r 14 (.fld 7 (.t 13)) :: .r 15 (.ld1 (.t 14)) :: .r 16 (.bin .lss (.t 15) (.c (.d (.int .i64 0)))) :: .r 17 (.mv (.t 16)) :: gapp [18, 19, 20, 21, 22, 23, 24, 25, 26, 27, 28, 29, 30, 31, 32, 33] 17 true (.r 18 (.mv (.t 0)) :: .r 19 (.nilc (.t 18)) :: .r 20 (.fld 0 (.t 19)) :: .r 21 (.ld1 (.t 20)) :: .r 22 (.mv (.t 0)) :: .r 23 (.nilc (.t 22)) :: .r 24 (.fld 6 (.t 23)) :: .r 25 (.ld1 (.t 24)) :: .r 26 (.idx 1 (.t 21) (.t 25)) :: .r 27 (.ld1 (.t 26)) :: .r 28 (.mv (.t 0)) :: .r 29 (.nilc (.t 28)) :: .r 30 (.fld 1 (.t 29)) :: .r 31 (.fld 4 (.t 30)) :: .r 32 (.ld1 (.t 31)) :: .r 33 (.bin .neq (.t 27) (.t 32)) :: []) (.r 34 (.pick (.t 17) (.t 33) (.c (.d (.bool false)))) :: [])))
  (.cond (.t 34)
    .skip
    (.exit 0)))
  (.block 1 (.seq (.regD [.r 35 (.mv (.t 0)),
       .r 36 (.nilc (.t 35)),
       .r 37 (.fld 0 (.t 36)),
       .r 38 (.ld1 (.t 37)),
       .r 39 (.mv (.t 0)),
       .r 40 (.nilc (.t 39)),
       .r 41 (.fld 6 (.t 40)),
       .r 42 (.ld1 (.t 41)),
       .r 43 (.idx 1 (.t 38) (.t 42)),
       .r 44 (.ld1 (.t 43)),
       .r 4 (.mv (.t 44))])
    (.seq (.reg [.r 45 (.mv (.t 0)),
       .r 46 (.nilc (.t 45)),
       .r 47 (.fld 6 (.t 46)),
       .o 48 (.ld1 (.t 47)),
       .r 49 (.bin .add (.t 48) (.c (.d (.int .i64 1)))),
       .r 50 (.nilc (.t 45)),
       .r 51 (.fld 6 (.t 50)),
       .w 0 (.st 1 (.t 51) (.t 49))])
    (.seq (.reg [.r 52 (.mv (.t 0)),
       .p (some 53) (.f 41) [.t 52],
       .r 5 (.mv (.t 53))])
    (.seq (.seq (.reg [.r 54 (.mv (.t 0)),
       .r 55 (.nilc (.t 54)),
       .r 56 (.fld 7 (.t 55)),
       .o 57 (.ld1 (.t 56)),
       .r 58 (.bin .geq (.t 57) (.c (.d (.int .i64 0))))])
    (.cond (.t 58)
      (.exit 0)
      .skip))
    (.seq (.reg [.r 59 (.fld 1 (.t 3)),
       .o 60 (.ld1 (.t 59)),
       .r 61 (.len (.t 60)),
       .r 6 (.mv (.t 61))])
    (.seq (.seq (.reg [.r 62 (.mv (.t 4)),
       .r 63 (.mv (.t 0)),
       .r 64 (.nilc (.t 63)),
       .r 65 (.fld 1 (.t 64)),
       .r 66 (.fld 0 (.t 65)),
       .o 67 (.ld1 (.t 66)),
       .r 68 (.bin .eql (.t 62) (.t 67))])
    (.cond (.t 68)
      (.seq (.reg [.r 69 (.fld 1 (.t 3)),
         .o 70 (.ld1 (.t 69)),
         .r 71 (.mv (.t 5)),
         .w 72 (.slM 9 1 [.t 71]),
         .w 73 (.slM 66 1 [.t 72]),
         .r 74 (.build [.nils] [(0, 1, .t 73)]),
         .r 75 (.bslice 1 [.t 74]),
         .w 76 (.app 64 1 (.t 70) (.t 75)),
         .r 77 (.fld 1 (.t 3)),
         .w 0 (.st 1 (.t 77) (.t 76))])
      (.exit 1))
      .skip))
    (.seq sc_interchange_interchangeref2_cutter_segment_R10
    (.seq (.reg [.r 84 (.fld 0 (.t 7)),
       .o 85 (.ld1 (.t 84)),
       .r 86 (.len (.t 85)),
       .r 8 (.mv (.t 86))])
    (.seq (.seq (.reg [.r 87 (.mv (.t 4)),
       .r 88 (.mv (.t 0)),
       .r 89 (.nilc (.t 88)),
       .r 90 (.fld 1 (.t 89)),
       .r 91 (.fld 2 (.t 90)),
       .o 92 (.ld1 (.t 91)),
       .r 93 (.bin .eql (.t 87) (.t 92))])
    (.cond (.t 93)
      (.reg [.r 94 (.fld 0 (.t 7)),
         .o 95 (.ld1 (.t 94)),
         .r 96 (.mv (.t 5)),
         .w 97 (.slM 9 1 [.t 96]),
         .r 98 (.bslice 1 [.t 97]),
         .w 99 (.app 66 1 (.t 95) (.t 98)),
         .r 100 (.fld 0 (.t 7)),
         .w 0 (.st 1 (.t 100) (.t 99))])
      sc_interchange_interchangeref2_cutter_segment_R14))
    (.reg [.r 115 (.fld 1 (.t 3)),
       .o 116 (.ld1 (.t 115)),
       .r 117 (.mv (.t 6)),
       .r 118 (.bin .sub (.t 117) (.c (.d (.int .i64 1)))),
       .o 119 (.ldA 1 (.t 7)),
       .r 120 (.idx 1 (.t 116) (.t 118)),
       .w 0 (.st 1 (.t 120) (.t 119))]))))))))))))
def sc_interchange_interchangeref2_cutter_segment_B1 : SC := .block 0 (.loop sc_interchange_interchangeref2_cutter_segment_L1)
/-- (*interchange/interchangeref2.cutter).segment -/
def sc_interchange_interchangeref2_cutter_segment : SC :=
  (.seq (.reg [.w 2 (.boxM (.c (.agg [.d (.str []), .nils])))])
  (.seq (.reg [.r 9 (.mv (.t 0)),
     .p (some 10) (.f 40) [.t 9],
     .r 11 (.build [.d (.str []), .nils] [(0, 1, .t 10)]),
     .w 3 (.boxM (.c (.agg [.d (.str []), .nils]))),
     .w 0 (.st 2 (.t 3) (.t 11))])
  (.seq sc_interchange_interchangeref2_cutter_segment_B1
  (.seq (.reg [.r 121 (.mv (.t 0)),
     .r 122 (.nilc (.t 121)),
     .r 123 (.fld 6 (.t 122)),
     .o 124 (.ld1 (.t 123)),
     .r 125 (.bin .add (.t 124) (.c (.d (.int .i64 1)))),
     .r 126 (.nilc (.t 121)),
     .r 127 (.fld 6 (.t 126)),
     .w 0 (.st 1 (.t 127) (.t 125))])
  (.seq (.reg [.o 128 (.ldA 2 (.t 3)),
     .w 0 (.st 2 (.t 2) (.t 128))])
  .ret)))))
theorem fit_interchange_interchangeref2_cutter_segment : fits Tryd.prog 23 Tryd.f23 sc_interchange_interchangeref2_cutter_segment [.cell 2 2] 1 = true := by kernel_rfl

set_option maxRecDepth 100000 in
set_option maxHeartbeats 40000000 in
noncomputable def sims_G5_0_0 : (∀ (x0 : Tinterchangeref2_cutter), {m : Option ((Tapi_Segment) × Tinterchangeref2_cutter) // ∀ r, m = some r → FSpec Tryd.prog 23 (.own (.pt [.sh, .sh, .sh, .sh, .sh, .sh, .sh, .sh, .sh]) (.ptr (rTinterchangeref2_cutter x0)) :: List.map SV.d ([] : List DV)) (.d (.agg (rTapi_Segment r.1))) (.own (.pt [.sh, .sh, .sh, .sh, .sh, .sh, .sh, .sh, .sh]) (.ptr (rTinterchangeref2_cutter r.2)) :: List.map SV.d ([] : List DV))}) := by
  (intro x0; apply Subtype.mk; intro r hm; apply fspec_walk1 (N := 129) (k := 1) Tryd.func23 fit_interchange_interchangeref2_cutter_segment (by kernel_rfl) rfl rfl (by decide); unfold sc_interchange_interchangeref2_cutter_segment)
  repeat' (first | ((with_reducible apply W_nilB (id := 3) (cid := 1097) (off := 1) (n := 1) (e := 64)); (focus (simp only [push_cast, seval]; (try rfl); done)); (focus (simp only [push_cast, seval]; (try rfl); done)); (focus decide); (focus (simp only [push_cast, seval]; (try rfl); done))) | ((with_reducible apply W_closeA1 (id := 73) (cid := 72) (off := 0) (ms' := [.sh]) (row' := rowS)); (focus (simp only [push_cast, seval]; (try rfl); done)); (focus (simp only [push_cast, seval]; (try rfl); done)); (focus rfl); (focus ((repeat' (first | (with_reducible first | apply c_ownS | apply r_oneO) | ((with_reducible apply svle_rfl); (focus ((repeat' (first | rfl)); done))))); done)); (focus rfl); (focus (intro _; rfl)); (focus decide); (focus (first | (simp only [repL, List.set_cons_zero]; rfl)))) | ((with_reducible apply W_closeX (id := 1224) (cid := 3113) (off := 0) (n' := 1)); (focus (simp only [push_cast, seval]; rfl)); (focus (simp only [push_cast, seval]; rfl)); (focus exact getI_get (by assumption)); (focus rfl); (focus ((repeat' (first | (with_reducible first | apply r_rfl))); done)); (focus rfl); (focus rfl); (focus (intro _; rfl)); (focus exact Nat.zero_lt_one); (focus rfl); (focus decide)) | with_reducible refine W_seq ?_ | with_reducible refine W_reg ?_ | with_reducible refine W_regD ?_ | with_reducible refine W_block ?_ | with_reducible refine W_skip ?_ | with_reducible refine W_ret ?_ | with_reducible refine W_exit ?_ | with_reducible refine O_nil ?_ | with_reducible refine K_seq ?_ | with_reducible refine K_seqE ?_ | with_reducible refine K_block ?_ | with_reducible refine K_blockE ?_ | ((with_reducible apply K_blockN); decide) | with_reducible refine O_o2r ?_ | ((with_reducible apply O_idxr hm); (iterate 2 (simp only [push_cast, seval]; rfl)); (intro _; rfl); intro e hm) | ((with_reducible apply O_idxVO hm); (iterate 2 (simp only [push_cast, seval]; rfl)); (focus (first | (simp only [push_cast, seval]; rfl))); (simp only [push_cast, seval]; rfl); intro e he hm) | ((with_reducible apply O_ldF); (iterate 2 (simp only [push_cast, seval]; rfl)); (focus (first | (simp only [push_cast, seval]; exact getI_lt (by assumption)))); (iterate 2 rfl)) | ((with_reducible apply O_ldFA); (iterate 2 (simp only [push_cast, seval]; rfl)); (focus (first | (simp only [push_cast, seval]; exact getI_lt (by assumption)))); (iterate 2 rfl); (focus (first | decide))) | ((with_reducible apply O_r); (simp only [push_cast, seval]; rfl); (first | exact trivial)) | ((with_reducible apply O_and hm); (simp only [push_cast, seval]; rfl); rfl; intro v hm; rotate_left; intro v g hm) | ((with_reducible apply O_w); (simp only [push_cast, seval]; rfl); (first | exact trivial)) | ((with_reducible apply O_appVO hm); (iterate 3 (simp only [push_cast, seval]; rfl)); rfl; (focus (first | decide)); intro hm) | ((with_reducible apply O_stFwE); (simp only [push_cast, seval]; rfl); (focus (first | (simp only [push_cast, seval]; rfl))); (simp only [push_cast, seval]; rfl); (focus (first | (simp only [push_cast, seval]; exact getI_lt (by assumption)))); (focus (first | exact Nat.zero_lt_one)); rfl) | ((with_reducible apply O_stFx); (simp only [push_cast, seval]; rfl); (focus (first | (simp only [push_cast, seval]; rfl))); (simp only [push_cast, seval]; rfl); (focus (first | (simp only [push_cast, seval]; exact getI_lt (by assumption)))); (focus (first | exact Nat.zero_lt_one)); rfl; (focus ((repeat' (first | exact Rer_nil)); done))) | ((with_reducible apply O_appVX hm); (iterate 2 (simp only [push_cast, seval]; rfl)); (focus ((repeat' (first | rfl)); done)); (simp only [push_cast, seval]; rfl); (focus ((repeat' (first | rfl | (with_reducible first | apply eR_nil | apply eR_cons))); done)); (intro _; rfl); (focus ((repeat' (first | exact Rer_nil | ((with_reducible apply Rer_cons); (focus (simp only [push_cast, seval]; rfl)); (focus (first | exact trivial)); (focus (simp only [push_cast, seval]))))); done)); intro hm) | ((with_reducible apply S_condB hm); (simp only [push_cast, seval]; rfl); intro hm; rotate_left; intro hm) | ((with_reducible apply K_bool hm); (simp only [push_cast, seval]; rfl)) | ((with_reducible apply K_leave hm); intro r hm) | ((apply S_loopY (b := 0) (X := sc_interchange_interchangeref2_cutter_segment_B1) (x := sc_interchange_interchangeref2_cutter_segment_L1) rfl (fun (c : Ch) (s : (List UInt8) × Tapi_Marks × Int × Int × Bool × (List UInt8) × (List Tapi_Element)) => st [(0, .ref 0 0), (2, .ref 2 0), (3, .ref 3 0), (129, .ref 0 0)] [(0, .box (bT_Tinterchangeref2_cutter s.1 s.2.1 s.2.2.1 s.2.2.2.1 s.2.2.2.2.1)), (1097, .vec 64 1 (vrowO [.sl 66 [.sl 9 [.sh]]] rTapi_Element s.2.2.2.2.2.2)), (3, .box (bT_Tapi_Segment s.2.2.2.2.2.1 1097)), (2, c)]) (c := _) (s0 := (_, _, _, _, _, _, _)) hm); (focus (first | (dsimp only; done))); (with_reducible refine Then.mk ?_ ?_)) | (((apply W_openId (x0 := sc_interchange_interchangeref2_cutter_segment_R10) 1224 6 (id := 1097) (off := 0) (n' := 1) (row := rTapi_Element) (ms := [.sl 66 [.sl 9 [.sh]]]) (row' := (rowL rowS)) (ms' := [.sl 9 [.sh]]) (fld := fun x : Tapi_Element => x.fRepeats) (cells := fun x => [.vec 1224]) hm); (focus (simp only [push_cast, seval]; rfl)); (focus (simp only [push_cast, seval]; rfl)); (focus rfl); (focus rfl); (focus (intro _; rfl)); (focus (intro _; rfl)); (focus decide); (intro x he hm; unfold sc_interchange_interchangeref2_cutter_segment_R10))) | ((apply W_openVd (x0 := sc_interchange_interchangeref2_cutter_segment_R14) 3113 8 (id := 1224) (off := 0) (n' := 1) (cells := fun _ => [.vec 3113]) hm); (focus (simp only [push_cast, seval]; rfl)); (focus (simp only [push_cast, seval]; rfl)); (focus rfl); (focus rfl); (focus (intro _; rfl)); (focus (intro _; rfl)); (focus decide); (focus (intro _; rfl)); (intro x he hm; unfold sc_interchange_interchangeref2_cutter_segment_R14; with_reducible refine W_regE ?_)) | ((apply K_next (s' := (_, _, _, _, _, _, _)) hm); (focus (first | (dsimp only; done))); (focus ((try ((apply Imp.trans); (focus ((apply imp_closeW (id := 1097) (cid := 1224) (off := 0) (n' := 1) (row := rTapi_Element) (ms := [.sl 66 [.sl 9 [.sh]]]) (row' := (rowL rowS)) (ms' := [.sl 9 [.sh]]) (x' := Tapi_Element.mk _)); (focus (simp only [push_cast, seval]; rfl)); (focus (simp only [push_cast, seval]; rfl)); rotate_left; (focus rfl); (focus ((repeat' (first | (with_reducible first | apply r_rflO | apply r_oneO | apply r_appO | apply c_ownLf))); done)); (focus rfl); (focus rfl); (focus (intro _; rfl)); (focus exact Nat.lt_of_sub_pos (Nat.zero_lt_succ _)); (focus (simp only [push_cast, seval]; rfl)); (focus decide); (first | (rotate_left; (focus exact getI_get (by assumption)))))))); (try ((apply Imp.trans); (focus ((apply imp_normO 1097 [.sl 66 [.sl 9 [.sh]]] rTapi_Element); (focus (simp only [push_cast, seval]; rfl)); (focus ((repeat' (first | (with_reducible first | apply r_rflO | apply r_oneO | apply r_appO | apply oT_Tapi_Element))); done)))))); (try ((apply Imp.trans); (focus ((apply imp_norm1 1097 [.sl 66 [.sl 9 [.sh]]] rTapi_Element); (focus (simp only [push_cast, seval]; rfl)); (focus ((repeat' (fail)); done)))))); (try ((apply Imp.trans); (focus ((apply imp_normO 1224 [.sl 9 [.sh]] (rowL rowS)); (focus (simp only [push_cast, seval]; rfl)); (focus ((repeat' (first | (with_reducible first | apply r_rflO | apply r_oneO | apply r_appO | apply c_ownLf))); done)))))); (try ((apply Imp.trans); (focus ((apply imp_norm1 1224 [.sl 9 [.sh]] (rowL rowS)); (focus (simp only [push_cast, seval]; rfl)); (focus ((repeat' (fail)); done)))))); (try ((apply Imp.trans); (focus ((apply imp_closeA1 (id := 73) (cid := 72) (off := 0) (ms' := [.sh]) (row' := rowS)); (focus (simp only [push_cast, seval]; (try rfl); done)); (focus (simp only [push_cast, seval]; (try rfl); done)); (focus rfl); (focus ((repeat' (fail)); done)); (focus rfl); (focus (intro _; rfl)); (focus decide); (focus (fail)))))); (try ((apply Imp.trans); (focus ((apply imp_closeAw (id := 1097) (cid := 73) (off := 0) (ms' := [.sl 9 [.sh]]) (row' := (rowL rowS))); (focus (simp only [push_cast, seval]; (try rfl); done)); (focus (simp only [push_cast, seval]; (try rfl); done)); (focus rfl); (focus ((repeat' (first | (with_reducible first | apply r_oneO | apply c_ownLf) | ((with_reducible apply cle_own); (focus rfl); (focus ((repeat' (first | rfl | (with_reducible first | apply dv_slice | apply fold_nil | apply fold_cons))); done))))); done)); (focus rfl); (focus (intro _; rfl)); (focus decide))))); (try ((apply Imp.trans); (focus ((apply imp_normO 1097 [.sl 66 [.sl 9 [.sh]]] rTapi_Element); (focus (simp only [push_cast, seval]; (try rfl); done)); (focus ((repeat' (first | (with_reducible first | apply r_rflO | apply r_oneO | apply r_appO | apply oT_Tapi_Element) | ((with_reducible apply cle_own); (focus rfl); (focus ((repeat' (first | rfl | (with_reducible first | apply dv_slice | apply fold_nil | apply fold_cons | apply f_rowL))); done))))); done)))))); (try ((apply Imp.trans); (focus ((apply imp_closeAw (id := 1224) (cid := 72) (off := 0) (ms' := [.sh]) (row' := rowS)); (focus (simp only [push_cast, seval]; (try rfl); done)); (focus (simp only [push_cast, seval]; (try rfl); done)); (focus rfl); (focus ((repeat' (fail)); done)); (focus rfl); (focus (intro _; rfl)); (focus decide))))); (try ((apply Imp.trans); (focus ((apply imp_closeAw (id := 1224) (cid := 97) (off := 0) (ms' := [.sh]) (row' := rowS)); (focus (simp only [push_cast, seval]; (try rfl); done)); (focus (simp only [push_cast, seval]; (try rfl); done)); (focus rfl); (focus ((repeat' (first | (with_reducible first | apply c_ownS | apply r_oneO) | ((with_reducible apply svle_rfl); (focus ((repeat' (first | rfl)); done))))); done)); (focus rfl); (focus (intro _; rfl)); (focus decide))))); (try ((apply Imp.trans); (focus ((apply imp_normO 1224 [.sl 9 [.sh]] (rowL rowS)); (focus (simp only [push_cast, seval]; (try rfl); done)); (focus ((repeat' (first | (with_reducible first | apply r_rflO | apply r_oneO | apply r_appO | apply c_ownLf) | ((with_reducible apply cle_own); (focus rfl); (focus ((repeat' (first | rfl | (with_reducible first | apply dv_slice | apply fold_nil | apply fold_cons))); done))))); done)))))); (try ((apply Imp.trans); (focus ((apply imp_closeW (id := 1097) (cid := 1224) (off := 0) (n' := 1) (row := rTapi_Element) (ms := [.sl 66 [.sl 9 [.sh]]]) (row' := (rowL rowS)) (ms' := [.sl 9 [.sh]]) (x' := Tapi_Element.mk _)); (focus (simp only [push_cast, seval]; rfl)); (focus (simp only [push_cast, seval]; rfl)); rotate_left; (focus rfl); (focus ((repeat' (first | (with_reducible first | apply r_rflO))); done)); (focus rfl); (focus rfl); (focus (intro _; rfl)); (focus exact Nat.lt_of_sub_pos (Nat.zero_lt_succ _)); (focus (simp only [push_cast, seval]; rfl)); (focus decide); (first | (rotate_left; (focus exact getI_get (by assumption)))))))); (apply imp_stT; (repeat' (first | with_reducible exact keepT_nil | with_reducible exact keepC_nil | with_reducible apply keepT_cons | with_reducible apply keepC_cons | ((with_reducible apply svle_eq); (focus (first | (simp only [push_cast, seval]; rfl))); (focus ((repeat' (first | rfl)); done))) | ((with_reducible apply chle_eq); (focus (first | (simp only [push_cast, seval]; rfl))); (first | with_reducible exact chle_rfl rfl)))); done)))) | ((apply K_brk (s' := (_, _, _, _, _, _, _)) hm); (focus (first | (dsimp only; done))); (focus ((apply imp_stT; (repeat' (first | with_reducible exact keepT_nil | with_reducible exact keepC_nil | with_reducible apply keepT_cons | with_reducible apply keepC_cons | ((with_reducible apply svle_eq); (focus (first | (simp only [push_cast, seval]; rfl))); (focus ((repeat' (first | rfl)); done))) | ((with_reducible apply chle_eq); (focus (first | (simp only [push_cast, seval]; rfl))); (first | with_reducible exact chle_rfl rfl)))); done)))) | (((with_reducible apply O_pM hm (id := 0) (ms := [.sh, .sh, .sh, .sh, .sh, .sh, .sh, .sh, .sh])); (focus (exact Imp.refl _)); (focus (simp only [push_cast, seval]; (try rfl); done)); (focus (simp only [push_cast, seval]; (try rfl); done)); (focus (simp only [push_cast, seval]; (try rfl); done)); (focus ((repeat' (first | (with_reducible first | apply oT_Tinterchangeref2_cutter | apply cT_Tapi_Marks) | ((with_reducible apply svle_eq); (focus (first | rfl)); (focus ((repeat' (first | rfl)); done))))); done)); (focus rfl); (first | apply spec_interchange_interchangeref2_cutter_tag _ | apply spec_interchange_interchangeref2_cutter_text _); (any_goals (focus ((repeat' (first | rfl)); done))); (focus (intro _; exact ⟨rfl, rfl, rfl⟩)); intro y hm)) | (((with_reducible apply K_endP hm (ms := [.sh, .sh, .sh, .sh, .sh, .sh, .sh, .sh, .sh])); (focus ((try ((apply Imp.trans); (focus ((apply imp_freeze (id := 1097)); (focus (simp only [push_cast, seval]; (try rfl); done)); (focus (simp only [push_cast, seval]; (try rfl); done)))))); (try ((apply Imp.trans); (focus ((apply imp_freeze (id := 1224)); (focus (simp only [push_cast, seval]; (try rfl); done)); (focus (simp only [push_cast, seval]; (try rfl); done)))))); exact Imp.refl _)); (focus (simp only [push_cast, seval]; (try rfl); done)); (focus ((repeat' (first | (with_reducible first | apply oT_Tinterchangeref2_cutter | apply cT_Tapi_Marks) | ((with_reducible apply svle_eq); (focus (first | rfl)); (focus ((repeat' (first | rfl)); done))))); done)); (focus (intro _; rfl)); (focus (simp only [push_cast, seval]; (try rfl); done)); (focus (simp only [push_cast, seval]; (try rfl); done)); (focus (simp only [push_cast, seval]; (try rfl); done)); (focus (simp only [push_cast, seval]; (try rfl); done)); (focus (first | (apply he_1; (focus ((repeat' (first | rfl | (with_reducible first | apply fT_Tapi_Segment | apply f_agg))); done))))))) | (((with_reducible apply LoopB.of); (focus (first | (dsimp only; done))); (focus ((intro _; repeat' (first | with_reducible exact impC_endF | with_reducible refine impC_seq ?_)))); (intro s o hm; first | unfold sc_interchange_interchangeref2_cutter_segment_L1); rotate_left; intro s hm)) | (((apply imp_stT; (repeat' (first | with_reducible exact keepT_nil | with_reducible exact keepC_nil | with_reducible apply keepT_cons | with_reducible apply keepC_cons | ((with_reducible apply svle_eq); (focus (first | (simp only [push_cast, seval]; rfl))); (focus ((repeat' (first | rfl)); done))) | ((with_reducible apply chle_eq); (focus (first | (simp only [push_cast, seval]; rfl))); (first | with_reducible exact chle_rfl rfl | with_reducible apply chle_vec)) | (with_reducible first | apply r_nilO))); done))))
noncomputable def m_interchange_interchangeref2_cutter_segment (x0 : Tinterchangeref2_cutter) : Option ((Tapi_Segment) × Tinterchangeref2_cutter) := (sims_G5_0_0 x0).1
theorem spec_interchange_interchangeref2_cutter_segment (x0 : Tinterchangeref2_cutter) : ∀ r, m_interchange_interchangeref2_cutter_segment x0 = some r → FSpec Tryd.prog 23 (.own (.pt [.sh, .sh, .sh, .sh, .sh, .sh, .sh, .sh, .sh]) (.ptr (rTinterchangeref2_cutter x0)) :: List.map SV.d ([] : List DV)) (.d (.agg (rTapi_Segment r.1))) (.own (.pt [.sh, .sh, .sh, .sh, .sh, .sh, .sh, .sh, .sh]) (.ptr (rTinterchangeref2_cutter r.2)) :: List.map SV.d ([] : List DV)) := (sims_G5_0_0 x0).2

end Go.Proofs.YtfbhhhghjehjjaaDoor
