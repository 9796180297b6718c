/-
  Texts of mine, one behind the other (SAShelf, SALibT, SALibS, SAG1, SALibO, SALibP, SALibQ, SALibH, SAShelfI, SALibI, SALibC, SAShelfC, SALibD, SAShelfW, SALibW, SACodeN, SANC, SANX, SACodeR, SANK, SANY, SAG3).
-/
import Derived.Ground.NamesProg
import Derived.Shelf.Strings.SlTrimAscii
import Derived.Shelf.Small.Strs
import Derived.Shelf.Strings.IndexAnyAll
import Derived.Test.YthcfbglbjipdaaaGreatDoorProg
import Derived.Test.YthcfbglbjipdaaaGreatDoorSAEngY
import Derived.KernelRfl
import Derived.Test.YthcfbglbjipdaaaGreatDoorSAEngZz
import Derived.Test.YthcfbglbjipdaaaGreatDoorSAEngX
import Derived.Lib.SlBytesConst
import Derived.ArgAppend
import Derived.Shelf.Strconv.Itoa3
import Derived.Shelf.SlicesE.Clone
import Derived.Shelf.SlGeneric
import Derived.Ground.SlgnProg
import Derived.Shelf.Small.Wraps
import Derived.Test.YthcfbglbjipdaaaGreatDoorSAEngW
import Derived.Test.YthcfbglbjipdaaaGreatDoorSAEngWk
/-
  DERIVED: THE SHELF's CONTRACTS AT THIS DUMP, IN PLAIN WORDS (tools/lay-plain.mjs out of 'YthcfbglbjipdaaaGreatDoorShelf.lean', which tools/lay-shelf.mjs wrote): THE SAME DECLARATIONS UNDER THE SAME NAMES: 'import', 'namespace', 'open', 'def', 'theorem' AND NOTHING ELSE: no command of the shelf's: FOR A HAND-IN. Each laying: the table of numbers ('.._ren') and one theorem, a field a fact of the dump's own or the kernel's comparison; each contract: ONE APPLICATION.
-/
namespace Go.Proofs
open Go.Shelf
def Tryz.lays160_ren : Go.Shelf.Ren := ⟨fun | 160 => 30 | 232 => 45 | 231 => 44 | 227 => 46 | 234 => 48 | 233 => 47 | 236 => 50 | 235 => 49 | 228 => 64 | 271 => 67 | 151 => 66 | 197 => 65 | 120 => 86 | 152 => 85 | 260 => 84 | 137 => 95 | 119 => 97 | 224 => 98 | 225 => 99 | 217 => 105 | 266 => 109 | n => n, fun | 9 => 9 | 4 => 4 | 3 => 3 | 5 => 5 | 117 => 87 | 116 => 86 | 0 => 0 | 124 => 90 | 21 => 21 | 105 => 102 | 46 => 126 | 119 => 131 | 139 => 134 | 138 => 133 | n => n, fun | 3 => 1 | 4 => 2 | n => n⟩
theorem Tryz.lays160 : Go.Proofs.Lays.n160 Tryz.prog Tryz.lays160_ren := {
  mixed := by kernel_rfl
  f119 := Tryz.func97.trans (congrArg some (by kernel_rfl))
  f120 := Tryz.func86.trans (congrArg some (by kernel_rfl))
  f137 := Tryz.func95.trans (congrArg some (by kernel_rfl))
  f151 := Tryz.func66.trans (congrArg some (by kernel_rfl))
  f152 := Tryz.func85.trans (congrArg some (by kernel_rfl))
  f160 := Tryz.func30.trans (congrArg some (by kernel_rfl))
  f197 := Tryz.func65.trans (congrArg some (by kernel_rfl))
  f217 := Tryz.func105.trans (congrArg some (by kernel_rfl))
  f224 := Tryz.func98.trans (congrArg some (by kernel_rfl))
  f225 := Tryz.func99.trans (congrArg some (by kernel_rfl))
  f227 := Tryz.func46.trans (congrArg some (by kernel_rfl))
  f228 := Tryz.func64.trans (congrArg some (by kernel_rfl))
  f231 := Tryz.func44.trans (congrArg some (by kernel_rfl))
  f232 := Tryz.func45.trans (congrArg some (by kernel_rfl))
  f233 := Tryz.func47.trans (congrArg some (by kernel_rfl))
  f234 := Tryz.func48.trans (congrArg some (by kernel_rfl))
  f235 := Tryz.func49.trans (congrArg some (by kernel_rfl))
  f236 := Tryz.func50.trans (congrArg some (by kernel_rfl))
  f260 := Tryz.func84.trans (congrArg some (by kernel_rfl))
  f266 := Tryz.func109.trans (congrArg some (by kernel_rfl))
  f271 := Tryz.func67.trans (congrArg some (by kernel_rfl))
  t0 := Tryz.underlying0
  a0 := Tryz.isAgg0
  z0 := Tryz.sizeOf0
  v0 := Tryz.zeroValue0
  t3 := Tryz.underlying3
  a3 := Tryz.isAgg3
  z3 := Tryz.sizeOf3
  v3 := Tryz.zeroValue3
  t4 := Tryz.underlying4
  a4 := Tryz.isAgg4
  z4 := Tryz.sizeOf4
  v4 := Tryz.zeroValue4
  t5 := Tryz.underlying5
  a5 := Tryz.isAgg5
  z5 := Tryz.sizeOf5
  v5 := Tryz.zeroValue5
  t9 := Tryz.underlying9
  a9 := Tryz.isAgg9
  z9 := Tryz.sizeOf9
  v9 := Tryz.zeroValue9
  t21 := Tryz.underlying21
  a21 := Tryz.isAgg21
  z21 := Tryz.sizeOf21
  v21 := Tryz.zeroValue21
  t46 := Tryz.underlying126
  a46 := Tryz.isAgg126
  z46 := Tryz.sizeOf126
  v46 := Tryz.zeroValue126
  t105 := Tryz.underlying102
  a105 := Tryz.isAgg102
  z105 := Tryz.sizeOf102
  v105 := Tryz.zeroValue102
  t116 := Tryz.underlying86
  a116 := Tryz.isAgg86
  z116 := Tryz.sizeOf86
  t117 := Tryz.underlying87
  a117 := Tryz.isAgg87
  z117 := Tryz.sizeOf87
  v117 := Tryz.zeroValue87
  t119 := Tryz.underlying131
  a119 := Tryz.isAgg131
  z119 := Tryz.sizeOf131
  t124 := Tryz.underlying90
  a124 := Tryz.isAgg90
  z124 := Tryz.sizeOf90
  v124 := Tryz.zeroValue90
  t138 := Tryz.underlying133
  a138 := Tryz.isAgg133
  z138 := Tryz.sizeOf133
  v138 := Tryz.zeroValue133
  t139 := Tryz.underlying134
  a139 := Tryz.isAgg134
  z139 := Tryz.sizeOf134
  v139 := Tryz.zeroValue134
  g3 := by kernel_rfl
  g4 := by kernel_rfl }
def Tryz.lays137_ren : Go.Shelf.Ren := ⟨fun | 137 => 95 | 217 => 105 | 266 => 109 | n => n, fun | 9 => 9 | 5 => 5 | 3 => 3 | n => n, fun | n => n⟩
theorem Tryz.lays137 : Go.Proofs.Lays.n137 Tryz.prog Tryz.lays137_ren := {
  mixed := by kernel_rfl
  f137 := Tryz.func95.trans (congrArg some (by kernel_rfl))
  f217 := Tryz.func105.trans (congrArg some (by kernel_rfl))
  f266 := Tryz.func109.trans (congrArg some (by kernel_rfl))
  t3 := Tryz.underlying3
  a3 := Tryz.isAgg3
  z3 := Tryz.sizeOf3
  v3 := Tryz.zeroValue3
  t5 := Tryz.underlying5
  a5 := Tryz.isAgg5
  z5 := Tryz.sizeOf5
  v5 := Tryz.zeroValue5
  t9 := Tryz.underlying9
  a9 := Tryz.isAgg9
  z9 := Tryz.sizeOf9
  v9 := Tryz.zeroValue9 }
def Tryz.lays150_ren : Go.Shelf.Ren := ⟨fun | 150 => 78 | 153 => 94 | 152 => 85 | 226 => 104 | 227 => 46 | 228 => 64 | 137 => 95 | 119 => 97 | 224 => 98 | 225 => 99 | 217 => 105 | 266 => 109 | n => n, fun | 9 => 9 | 4 => 4 | 3 => 3 | 5 => 5 | 21 => 21 | 117 => 87 | 116 => 86 | 0 => 0 | 46 => 126 | 124 => 90 | n => n, fun | n => n⟩
theorem Tryz.lays150 : Go.Proofs.Lays.n150 Tryz.prog Tryz.lays150_ren := {
  mixed := by kernel_rfl
  f119 := Tryz.func97.trans (congrArg some (by kernel_rfl))
  f137 := Tryz.func95.trans (congrArg some (by kernel_rfl))
  f150 := Tryz.func78.trans (congrArg some (by kernel_rfl))
  f152 := Tryz.func85.trans (congrArg some (by kernel_rfl))
  f153 := Tryz.func94.trans (congrArg some (by kernel_rfl))
  f217 := Tryz.func105.trans (congrArg some (by kernel_rfl))
  f224 := Tryz.func98.trans (congrArg some (by kernel_rfl))
  f225 := Tryz.func99.trans (congrArg some (by kernel_rfl))
  f226 := Tryz.func104.trans (congrArg some (by kernel_rfl))
  f227 := Tryz.func46.trans (congrArg some (by kernel_rfl))
  f228 := Tryz.func64.trans (congrArg some (by kernel_rfl))
  f266 := Tryz.func109.trans (congrArg some (by kernel_rfl))
  t0 := Tryz.underlying0
  a0 := Tryz.isAgg0
  z0 := Tryz.sizeOf0
  v0 := Tryz.zeroValue0
  t3 := Tryz.underlying3
  a3 := Tryz.isAgg3
  z3 := Tryz.sizeOf3
  v3 := Tryz.zeroValue3
  t4 := Tryz.underlying4
  a4 := Tryz.isAgg4
  z4 := Tryz.sizeOf4
  v4 := Tryz.zeroValue4
  t5 := Tryz.underlying5
  a5 := Tryz.isAgg5
  z5 := Tryz.sizeOf5
  v5 := Tryz.zeroValue5
  t9 := Tryz.underlying9
  a9 := Tryz.isAgg9
  z9 := Tryz.sizeOf9
  v9 := Tryz.zeroValue9
  t21 := Tryz.underlying21
  a21 := Tryz.isAgg21
  z21 := Tryz.sizeOf21
  v21 := Tryz.zeroValue21
  t46 := Tryz.underlying126
  a46 := Tryz.isAgg126
  z46 := Tryz.sizeOf126
  v46 := Tryz.zeroValue126
  t116 := Tryz.underlying86
  a116 := Tryz.isAgg86
  z116 := Tryz.sizeOf86
  t117 := Tryz.underlying87
  a117 := Tryz.isAgg87
  z117 := Tryz.sizeOf87
  v117 := Tryz.zeroValue87
  t124 := Tryz.underlying90
  a124 := Tryz.isAgg90
  z124 := Tryz.sizeOf90
  v124 := Tryz.zeroValue90 }
end Go.Proofs

/-
  strings.Trim at a set of ASCII bytes.
-/
namespace Go.Proofs.YthcfbglbjipdaaaGreatDoor
set_option linter.unusedSimpArgs false
set_option linter.unusedVariables false
open Go.RowKit Go.Shelf

def m_strings_Trim (s cs : List UInt8) : Option (List UInt8) := if s.length ≤ 9223372036854775807 ∧ cs.length < 4294967281 ∧ cs.all (fun b => decide (b.toNat < 128)) = true then some (Lib.trimS s cs) else none
theorem spec_strings_Trim (s cs : List UInt8) : ∀ r, m_strings_Trim s cs = some r → PureSpec Tryz.prog 30 [.str s, .str cs] (.str r) := by
  intro r hr
  unfold m_strings_Trim at hr
  split at hr
  · rename_i h
    obtain ⟨h1, h2, h3⟩ := h
    cases hr
    refine ⟨by kernel_rfl, fun w M vs hM hv _ => ?_⟩
    simp only [RepL, Rep] at hv
    obtain ⟨u, us, rfl, rfl, u', us', rfl, rfl, rfl⟩ := hv
    have hcon := Any.strings_Trim_laid Tryz.lays160 (by kernel_rfl) ⟨s.toArray⟩ ⟨cs.toArray⟩ w (by simpa [ByteArray.size] using h1) (by simpa [ByteArray.size] using h2) (ascii_of_all (by simpa using h3))
    refine Calls.mono hcon ?_
    rintro e w' ⟨rfl, hB⟩
    exact ⟨_, rfl, by simp [Rep], hB⟩
  · cases hr
end Go.Proofs.YthcfbglbjipdaaaGreatDoor

/-
  strings.IndexByte and strings.ContainsAny (of ASCII).
-/
namespace Go.Proofs.YthcfbglbjipdaaaGreatDoor
set_option linter.unusedSimpArgs false
set_option linter.unusedVariables false
open Go.RowKit Go.Shelf

def m_strings_IndexByte (s : List UInt8) (c : UInt8) : Option Int := some (Lib.indexByte s c)
theorem spec_strings_IndexByte (s : List UInt8) (c : UInt8) : ∀ r, m_strings_IndexByte s c = some r → PureSpec Tryz.prog 95 [.str s, .int .u8 c.toNat] (.int .i64 r) := by
  intro r hr
  cases hr
  refine ⟨by kernel_rfl, fun w M vs hM hv _ => ?_⟩
  simp only [RepL, Rep] at hv
  obtain ⟨u, us, rfl, rfl, u', us', rfl, rfl, rfl⟩ := hv
  have hcon := Any.strings_IndexByte Tryz.lays137 ⟨s.toArray⟩ (c.toNat : Int) w
  refine Calls.mono hcon ?_
  rintro e w' ⟨rfl, rfl⟩
  refine ⟨_, rfl, ?_, Below.refl _ _⟩
  simp only [Rep]
  have : ((c.toNat : Int)).toNat.toUInt8 = c := by simp
  rw [this]
def m_strings_ContainsAny (s cs : List UInt8) : Option Bool := if s.length < 4294967281 ∧ cs.length < 4294967281 ∧ s.all (fun b => decide (b.toNat < 128)) = true ∧ cs.all (fun b => decide (b.toNat < 128)) = true then some (Lib.containsAny s cs) else none
theorem spec_strings_ContainsAny (s cs : List UInt8) : ∀ r, m_strings_ContainsAny s cs = some r → PureSpec Tryz.prog 78 [.str s, .str cs] (.bool r) := by
  intro r hr
  unfold m_strings_ContainsAny at hr
  split at hr
  · rename_i h
    obtain ⟨h1, h2, h3, h4⟩ := h
    cases hr
    refine ⟨by kernel_rfl, fun w M vs hM hv _ => ?_⟩
    simp only [RepL, Rep] at hv
    obtain ⟨u, us, rfl, rfl, u', us', rfl, rfl, rfl⟩ := hv
    have asc : ∀ (l : List UInt8), l.all (fun b => decide (b.toNat < 128)) = true → ∀ (j : Nat) b, l[j]? = some b → b.toNat < 128 := fun l hl j b hb => by
      have := List.all_eq_true.1 hl b (List.mem_of_getElem? hb)
      simpa using this
    have hcon := Any.strings_ContainsAny_laid Tryz.lays150 (by kernel_rfl) ⟨s.toArray⟩ ⟨cs.toArray⟩ w (by simpa [ByteArray.size] using h1) (by simpa [ByteArray.size] using h2) (asc s h3) (asc cs h4)
    refine Calls.mono hcon ?_
    rintro e w' ⟨rfl, hB⟩
    exact ⟨_, rfl, by simp [Rep], hB⟩
  · cases hr
end Go.Proofs.YthcfbglbjipdaaaGreatDoor

/-
  Bodies of functions and what they compute, printed by programs of mine (wip/tool/gen.py, sc.py) out of the translation; the kernel holds each against the translation.
-/
namespace Go.Proofs.YthcfbglbjipdaaaGreatDoor
open Go.RowKit
set_option linter.unusedSimpArgs false
set_option linter.unusedVariables false
structure Tapi_Marks where
  fElement : UInt8
  fPart : UInt8
  fRepeat : UInt8
  fEscape : UInt8
  fEnd : UInt8
  deriving DecidableEq
def rTapi_Marks (x : Tapi_Marks) : List DV := [.int .u8 (x.fElement).toNat, .int .u8 (x.fPart).toNat, .int .u8 (x.fRepeat).toNat, .int .u8 (x.fEscape).toNat, .int .u8 (x.fEnd).toNat]
attribute [push_cast] rTapi_Marks
theorem fT_Tapi_Marks {d0 d1 d2 d3 d4 : DV} {v0 : UInt8} {v1 : UInt8} {v2 : UInt8} {v3 : UInt8} {v4 : UInt8} (h0 : d0 = .int .u8 (v0).toNat) (h1 : d1 = .int .u8 (v1).toNat) (h2 : d2 = .int .u8 (v2).toNat) (h3 : d3 = .int .u8 (v3).toNat) (h4 : d4 = .int .u8 (v4).toNat) : [d0, d1, d2, d3, d4] = rTapi_Marks ⟨v0, v1, v2, v3, v4⟩ := by unfold rTapi_Marks; simp only [h0, h1, h2, h3, h4, List.cons_append, List.nil_append, List.append_assoc, List.append_nil]
structure Tapi_Element where
  fRepeats : List (List (List UInt8))
  deriving DecidableEq
def rTapi_Element (x : Tapi_Element) : List DV := [.slice (List.map (rowL rowS) x.fRepeats)]
attribute [push_cast] rTapi_Element
theorem fT_Tapi_Element {d0 : DV} {v0 : List (List (List UInt8))} (h0 : d0 = .slice (List.map (rowL rowS) v0)) : [d0] = rTapi_Element ⟨v0⟩ := by unfold rTapi_Element; simp only [h0, List.cons_append, List.nil_append, List.append_assoc, List.append_nil]
theorem cT_Tapi_Element {d0 : SV} {v0 : List (List (List UInt8))} (h0 : svle d0 (.d (.slice (List.map (rowL rowS) v0)))) : cellsle [d0] (dR (rTapi_Element ⟨v0⟩)) := by have h := (cellsle.consS h0 cellsle.nil); simpa only [rTapi_Element, dR, List.map_append, List.map_cons, List.map_nil, List.cons_append, List.nil_append, List.append_assoc, List.append_nil] using h
structure Tapi_Segment where
  fTag : List UInt8
  fElements : List Tapi_Element
  deriving DecidableEq
def rTapi_Segment (x : Tapi_Segment) : List DV := [.str x.fTag, .slice (List.map rTapi_Element x.fElements)]
attribute [push_cast] rTapi_Segment
theorem fT_Tapi_Segment {d0 d1 : DV} {v0 : List UInt8} {v1 : List Tapi_Element} (h0 : d0 = .str v0) (h1 : d1 = .slice (List.map rTapi_Element v1)) : [d0, d1] = rTapi_Segment ⟨v0, v1⟩ := by unfold rTapi_Segment; simp only [h0, h1, List.cons_append, List.nil_append, List.append_assoc, List.append_nil]
theorem cT_Tapi_Segment {d0 d1 : SV} {v0 : List UInt8} {v1 : List Tapi_Element} (h0 : svle d0 (.d (.str v0))) (h1 : svle d1 (.d (.slice (List.map rTapi_Element v1)))) : cellsle [d0, d1] (dR (rTapi_Segment ⟨v0, v1⟩)) := by have h := (cellsle.append (cellsle.consS h0 cellsle.nil) (cellsle.consS h1 cellsle.nil)); simpa only [rTapi_Segment, dR, List.map_append, List.map_cons, List.map_nil, List.cons_append, List.nil_append, List.append_assoc, List.append_nil] using h
/-- interchange/kit.IsTagPart -/
def sc_kit_IsTagPart : SC :=
  (.seq (.reg [.r 2 (.mv (.c (.d (.bool false))))])
  (.seq (.reg [.r 3 (.mv (.t 0)),
     .c 4 (.f 30) [.t 3, .c (.d (.str [65, 66, 67, 68, 69, 70, 71, 72, 73, 74, 75, 76, 77, 78, 79, 80, 81, 82, 83, 84, 85, 86, 87, 88, 89, 90, 48, 49, 50, 51, 52, 53, 54, 55, 56, 57]))],
     .r 5 (.bin .eql (.t 4) (.c (.d (.str [])))),
     .r 2 (.mv (.t 5))])
  .ret))
theorem fit_kit_IsTagPart : fits Tryz.prog 76 Tryz.f76 sc_kit_IsTagPart [.t 2] 1 = true := by kernel_rfl

def sc_kit_InBytes_L1 : SC :=
  (.seq (.reg [.r 11 (.bin .lss (.t 10) (.t 9))])
  (.seq (.cond (.t 11)
    .skip
    (.exit 0))
  (.seq (.block 1 (.seq (.reg [.r 12 (.mv (.t 10)),
       .r 7 (.mv (.t 12))])
    (.seq (.reg (.r 13 (.mv (.t 0)) :: .r 14 (.mv (.t 7)) :: .r 15 (.sidx (.t 13) (.t 14)) :: .r 16 (.mv (.t 1)) :: .r 17 (.bin .lss (.t 15) (.t 16)) :: .r 18 (.mv (.t 17)) :: gapp [19, 20, 21, 22, 23] 18 false (.r 19 (.mv (.t 0)) :: .r 20 (.mv (.t 7)) :: .r 21 (.sidx (.t 19) (.t 20)) :: .r 22 (.mv (.t 2)) :: .r 23 (.bin .gtr (.t 21) (.t 22)) :: []) (.r 24 (.pick (.t 18) (.c (.d (.bool true))) (.t 23)) :: [])))
    (.cond (.t 24)
      (.seq (.reg [.r 6 (.mv (.c (.d (.bool false))))])
      .ret)
      .skip))))
  (.reg [.r 25 (.bin .add (.t 10) (.c (.d (.int .i64 1)))),
     .r 10 (.mv (.t 25))]))))
def sc_kit_InBytes_B1 : SC := .block 0 (.loop sc_kit_InBytes_L1)
/-- interchange/kit.InBytes -/
def sc_kit_InBytes : SC :=
  (.seq (.reg [.r 6 (.mv (.c (.d (.bool false))))])
  (.seq (.seq (.reg [.r 8 (.mv (.t 0)),
     .r 9 (.lenT (.t 8)),
     .r 10 (.mv (.c (.d (.int .i64 0))))])
  sc_kit_InBytes_B1)
  (.seq (.reg [.r 6 (.mv (.c (.d (.bool true))))])
  .ret)))
theorem fit_kit_InBytes : fits Tryz.prog 77 Tryz.f77 sc_kit_InBytes [.t 6] 3 = true := by kernel_rfl

def sc_slices_Index_byte_byte_L1 : SC :=
  (.seq (.reg [.r 9 (.bin .lss (.t 8) (.t 7))])
  (.seq (.cond (.t 9)
    .skip
    (.exit 0))
  (.seq (.block 1 (.seq (.reg [.r 10 (.mv (.t 8)),
       .r 5 (.mv (.t 10))])
    (.seq (.reg [.r 11 (.mv (.t 1)),
       .r 12 (.mv (.t 0)),
       .r 13 (.mv (.t 5)),
       .r 14 (.idx 1 (.t 12) (.t 13)),
       .o 15 (.ld1 (.t 14)),
       .r 16 (.bin .eql (.t 11) (.t 15))])
    (.cond (.t 16)
      (.seq (.reg [.r 17 (.mv (.t 5)),
         .r 4 (.mv (.t 17))])
      .ret)
      .skip))))
  (.reg [.r 18 (.bin .add (.t 8) (.c (.d (.int .i64 1)))),
     .r 8 (.mv (.t 18))]))))
def sc_slices_Index_byte_byte_B1 : SC := .block 0 (.loop sc_slices_Index_byte_byte_L1)
/-- slices.Index[[]byte,byte] -/
def sc_slices_Index_byte_byte : SC :=
  (.seq (.reg [.r 4 (.mv (.c (.d (.int .i64 0))))])
  (.seq (.seq (.reg [.r 6 (.mv (.t 0)),
     .r 7 (.len (.t 6)),
     .r 8 (.mv (.c (.d (.int .i64 0))))])
  sc_slices_Index_byte_byte_B1)
  (.seq (.reg [.r 4 (.mv (.c (.d (.int .i64 (-1)))))])
  .ret)))
theorem fit_slices_Index_byte_byte : fits Tryz.prog 79 Tryz.f79 sc_slices_Index_byte_byte [.t 4] 2 = true := by kernel_rfl

def sc_interchangeref2_beginsTag_L1 : SC :=
  (.seq (.seq (.reg [.r 5 (.mv (.t 3)),
     .r 6 (.mv (.t 0)),
     .r 7 (.lenT (.t 6)),
     .r 8 (.bin .lss (.t 5) (.t 7))])
  (.cond (.t 8)
    .skip
    (.exit 0)))
  (.seq (.block 1 (.seq (.reg (.r 11 (.mv (.t 0)) :: .r 12 (.mv (.t 3)) :: .r 13 (.sidx (.t 11) (.t 12)) :: .r 14 (.bin .geq (.t 13) (.c (.d (.int .u8 65)))) :: .r 15 (.mv (.t 14)) :: gapp [16, 17, 18, 19] 15 true (.r 16 (.mv (.t 0)) :: .r 17 (.mv (.t 3)) :: .r 18 (.sidx (.t 16) (.t 17)) :: .r 19 (.bin .leq (.t 18) (.c (.d (.int .u8 90)))) :: []) (.r 20 (.pick (.t 15) (.t 19) (.c (.d (.bool false)))) :: .r 4 (.mv (.t 20)) :: [])))
    (.seq (.reg (.r 21 (.mv (.t 4)) :: .r 22 (.not (.t 21)) :: .r 23 (.mv (.t 22)) :: gapp [24, 25, 26, 27, 28, 29, 30, 31, 32, 33, 34, 35, 36, 37] 23 true (.r 24 (.mv (.t 3)) :: .r 25 (.bin .eql (.t 24) (.c (.d (.int .i64 0)))) :: .r 26 (.mv (.t 25)) :: gapp [27, 28, 29, 30] 26 false (.r 27 (.mv (.t 0)) :: .r 28 (.mv (.t 3)) :: .r 29 (.sidx (.t 27) (.t 28)) :: .r 30 (.bin .lss (.t 29) (.c (.d (.int .u8 48)))) :: []) (.r 31 (.pick (.t 26) (.c (.d (.bool true))) (.t 30)) :: .r 32 (.mv (.t 31)) :: gapp [33, 34, 35, 36] 32 false (.r 33 (.mv (.t 0)) :: .r 34 (.mv (.t 3)) :: .r 35 (.sidx (.t 33) (.t 34)) :: .r 36 (.bin .gtr (.t 35) (.c (.d (.int .u8 57)))) :: []) (.r 37 (.pick (.t 32) (.c (.d (.bool true))) (.t 36)) :: []))) (.r 38 (.pick (.t 23) (.t 37) (.c (.d (.bool false)))) :: [])))
    (.cond (.t 38)
      (.seq (.reg [.r 2 (.mv (.c (.d (.bool false))))])
      .ret)
      .skip))))
  (.reg [.r 9 (.mv (.t 3)),
     .r 10 (.bin .add (.t 9) (.c (.d (.int .i64 1)))),
     .r 3 (.mv (.t 10))])))
def sc_interchangeref2_beginsTag_B1 : SC := .block 0 (.loop sc_interchangeref2_beginsTag_L1)
/-- interchange/interchangeref2.beginsTag -/
def sc_interchangeref2_beginsTag : SC :=
  (.seq (.reg [.r 2 (.mv (.c (.d (.bool false))))])
  (.seq (.seq (.reg [.r 3 (.mv (.c (.d (.int .i64 0))))])
  sc_interchangeref2_beginsTag_B1)
  (.seq (.reg [.r 39 (.mv (.t 0)),
     .r 40 (.lenT (.t 39)),
     .r 41 (.bin .leq (.t 40) (.c (.d (.int .i64 6)))),
     .r 2 (.mv (.t 41))])
  .ret)))
theorem fit_interchangeref2_beginsTag : fits Tryz.prog 107 Tryz.f107 sc_interchangeref2_beginsTag [.t 2] 1 = true := by kernel_rfl

def sc_interchangeref2_checkText_L1 : SC :=
  (.seq (.seq (.reg [.r 7 (.mv (.t 3)),
     .r 8 (.mv (.t 0)),
     .r 9 (.lenT (.t 8)),
     .r 10 (.bin .lss (.t 7) (.t 9))])
  (.cond (.t 10)
    .skip
    (.exit 0)))
  (.seq (.block 1 (.seq (.reg (.r 13 (.mv (.t 0)) :: .r 14 (.mv (.t 3)) :: .r 15 (.sidx (.t 13) (.t 14)) :: .r 16 (.bin .lss (.t 15) (.c (.d (.int .u8 32)))) :: .r 17 (.mv (.t 16)) :: gapp [18, 19, 20, 21] 17 false (.r 18 (.mv (.t 0)) :: .r 19 (.mv (.t 3)) :: .r 20 (.sidx (.t 18) (.t 19)) :: .r 21 (.bin .gtr (.t 20) (.c (.d (.int .u8 126)))) :: []) (.r 22 (.pick (.t 17) (.c (.d (.bool true))) (.t 21)) :: [])))
    (.cond (.t 22)
      (.seq (.reg [.r 2 (.mv (.c (.d (.int .i64 3))))])
      .ret)
      .skip)))
  (.reg [.r 11 (.mv (.t 3)),
     .r 12 (.bin .add (.t 11) (.c (.d (.int .i64 1)))),
     .r 3 (.mv (.t 12))])))
def sc_interchangeref2_checkText_B1 : SC := .block 0 (.loop sc_interchangeref2_checkText_L1)
/-- interchange/interchangeref2.checkText -/
def sc_interchangeref2_checkText : SC :=
  (.seq (.reg [.r 2 (.mv (.c (.d (.int .i64 0))))])
  (.seq (.seq (.reg [.r 4 (.mv (.t 0)),
     .r 5 (.lenT (.t 4)),
     .r 6 (.bin .gtr (.t 5) (.c (.d (.int .i64 1000))))])
  (.cond (.t 6)
    (.seq (.reg [.r 2 (.mv (.c (.d (.int .i64 2))))])
    .ret)
    .skip))
  (.seq (.seq (.reg [.r 3 (.mv (.c (.d (.int .i64 0))))])
  sc_interchangeref2_checkText_B1)
  (.seq (.reg [.r 2 (.mv (.c (.d (.int .i64 0))))])
  .ret))))
theorem fit_interchangeref2_checkText : fits Tryz.prog 108 Tryz.f108 sc_interchangeref2_checkText [.t 2] 1 = true := by kernel_rfl

set_option maxRecDepth 100000 in
set_option maxHeartbeats 40000000 in
noncomputable def sims_G1_0_0 : (∀ (x0 : List UInt8), {m : Option (Bool) // ∀ r, m = some r → PureSpec Tryz.prog 76 [.str x0] (.bool r)}) × (∀ (x0 : List UInt8) (x1 : UInt8) (x2 : UInt8), {m : Option (Bool) // ∀ r, m = some r → PureSpec Tryz.prog 77 [.str x0, .int .u8 (x1).toNat, .int .u8 (x2).toNat] (.bool r)}) × (∀ (x0 : List UInt8) (x1 : UInt8), {m : Option (Int) // ∀ r, m = some r → PureSpec Tryz.prog 79 [.slice (List.map rowY x0), .int .u8 (x1).toNat] (.int .i64 r)}) × (∀ (x0 : List UInt8), {m : Option (Bool) // ∀ r, m = some r → PureSpec Tryz.prog 107 [.str x0] (.bool r)}) × (∀ (x0 : List UInt8), {m : Option (Int) // ∀ r, m = some r → PureSpec Tryz.prog 108 [.str x0] (.int .i64 r)}) := by
  refine ⟨?g0, ?g1, ?g2, ?g3, ?g4⟩
  case' g0 => (intro x0; apply Subtype.mk; intro r hm; apply pure_walk Tryz.func76 fit_kit_IsTagPart; unfold sc_kit_IsTagPart)
  case' g1 => (intro x0 x1 x2; apply Subtype.mk; intro r hm; apply pure_walk Tryz.func77 fit_kit_InBytes; unfold sc_kit_InBytes)
  case' g2 => (intro x0 x1; apply Subtype.mk; intro r hm; apply pure_walk Tryz.func79 fit_slices_Index_byte_byte; unfold sc_slices_Index_byte_byte)
  case' g3 => (intro x0; apply Subtype.mk; intro r hm; apply pure_walk Tryz.func107 fit_interchangeref2_beginsTag; unfold sc_interchangeref2_beginsTag)
  case' g4 => (intro x0; apply Subtype.mk; intro r hm; apply pure_walk Tryz.func108 fit_interchangeref2_checkText; unfold sc_interchangeref2_checkText)
  all_goals (repeat' (first | with_reducible refine W_seq ?_ | with_reducible refine W_reg ?_ | with_reducible refine W_block ?_ | with_reducible refine W_skip ?_ | with_reducible refine W_ret ?_ | with_reducible refine W_exit ?_ | with_reducible refine O_nil ?_ | with_reducible refine K_seq ?_ | with_reducible refine K_seqE ?_ | with_reducible refine K_seqR ?_ | with_reducible refine K_block ?_ | with_reducible refine K_blockR ?_ | with_reducible refine O_o2r ?_ | ((with_reducible apply O_idxr hm); (iterate 2 (simp only [push_cast, seval]; rfl)); (intro _; rfl); intro e hm) | ((with_reducible apply O_sidxr hm); (iterate 2 (simp only [push_cast, seval]; rfl)); intro e hm) | ((with_reducible apply O_r); (simp only [push_cast, seval]; rfl); (first | exact trivial)) | ((with_reducible apply O_and hm); (simp only [push_cast, seval]; rfl); rfl; intro v hm; rotate_left; intro v g hm) | ((with_reducible apply O_or hm); (simp only [push_cast, seval]; rfl); rfl; intro v hm; rotate_left; intro v g hm) | ((with_reducible apply O_cF hm); (simp only [push_cast, seval]; rfl); (first | apply spec_strings_Trim _ _); (any_goals ((repeat' (first | rfl)); done)); intro x hm) | ((with_reducible apply S_condB hm); (simp only [push_cast, seval]; rfl); intro hm; rotate_left; intro hm) | ((with_reducible apply K_endS hm); (focus (simp only [resOf, resL, RV.get, push_cast, seval]; rfl)); (focus ((repeat' (first | rfl)); done))) | ((with_reducible apply K_bool hm); (simp only [push_cast, seval]; rfl)) | ((with_reducible apply K_leave hm); intro r hm) | ((with_reducible apply K_leaveR hm); intro r hm) | ((apply S_loopY (b := 0) (X := sc_kit_InBytes_B1) (x := sc_kit_InBytes_L1) rfl (fun (c : SV × SV × SV × SV) (s : Int) => st [(0, c.1), (1, c.2.1), (2, c.2.2.1), (9, c.2.2.2), (10, .d (.int .i64 s))] []) (c := (_, _, _, _)) (s0 := _) hm); (focus (first | (dsimp only; done))); (with_reducible refine Then.mk ?_ ?_)) | ((apply S_loopY (b := 0) (X := sc_slices_Index_byte_byte_B1) (x := sc_slices_Index_byte_byte_L1) rfl (fun (c : SV × SV × SV) (s : Int) => st [(0, c.1), (1, c.2.1), (7, c.2.2), (8, .d (.int .i64 s))] []) (c := (_, _, _)) (s0 := _) hm); (focus (first | (dsimp only; done))); (with_reducible refine Then.mk ?_ ?_)) | ((apply S_loopY (b := 0) (X := sc_interchangeref2_beginsTag_B1) (x := sc_interchangeref2_beginsTag_L1) rfl (fun (c : SV) (s : Int) => st [(0, c), (3, .d (.int .i64 s))] []) (c := _) (s0 := _) hm); (focus (first | (dsimp only; done))); (with_reducible refine Then.mk ?_ ?_)) | ((apply S_loopY (b := 0) (X := sc_interchangeref2_checkText_B1) (x := sc_interchangeref2_checkText_L1) rfl (fun (c : SV) (s : Int) => st [(0, c), (3, .d (.int .i64 s))] []) (c := _) (s0 := _) hm); (focus (first | (dsimp only; done))); (with_reducible refine Then.mk ?_ ?_)) | ((apply K_next (s' := _) hm); (focus (first | (dsimp only; done)))) | ((apply K_brk (s' := _) hm); (focus (first | (dsimp only; done)))) | (((with_reducible apply K_brkR hm); intro r hm)) | (((with_reducible apply LoopB.of); (focus (first | (dsimp only; done))); (focus ((intro _; repeat' (first | with_reducible exact impC_end | with_reducible refine impC_seq ?_)))); (intro s o hm; first | unfold sc_kit_InBytes_L1 | unfold sc_slices_Index_byte_byte_L1 | unfold sc_interchangeref2_beginsTag_L1 | unfold sc_interchangeref2_checkText_L1); rotate_left; intro s hm)) | (((apply imp_stT; (repeat' (first | with_reducible exact keepT_nil | with_reducible exact keepC_nil | with_reducible apply keepT_cons | ((with_reducible apply svle_eq); (focus (first | (simp only [push_cast, seval]; rfl))); (focus ((repeat' (first | rfl)); done))))); done)))))
noncomputable def m_kit_IsTagPart (x0 : List UInt8) : Option (Bool) := (sims_G1_0_0.1 x0).1
theorem spec_kit_IsTagPart (x0 : List UInt8) : ∀ r, m_kit_IsTagPart x0 = some r → PureSpec Tryz.prog 76 [.str x0] (.bool r) := (sims_G1_0_0.1 x0).2
noncomputable def m_kit_InBytes (x0 : List UInt8) (x1 : UInt8) (x2 : UInt8) : Option (Bool) := (sims_G1_0_0.2.1 x0 x1 x2).1
theorem spec_kit_InBytes (x0 : List UInt8) (x1 : UInt8) (x2 : UInt8) : ∀ r, m_kit_InBytes x0 x1 x2 = some r → PureSpec Tryz.prog 77 [.str x0, .int .u8 (x1).toNat, .int .u8 (x2).toNat] (.bool r) := (sims_G1_0_0.2.1 x0 x1 x2).2
noncomputable def m_slices_Index_byte_byte (x0 : List UInt8) (x1 : UInt8) : Option (Int) := (sims_G1_0_0.2.2.1 x0 x1).1
theorem spec_slices_Index_byte_byte (x0 : List UInt8) (x1 : UInt8) : ∀ r, m_slices_Index_byte_byte x0 x1 = some r → PureSpec Tryz.prog 79 [.slice (List.map rowY x0), .int .u8 (x1).toNat] (.int .i64 r) := (sims_G1_0_0.2.2.1 x0 x1).2
noncomputable def m_interchangeref2_beginsTag (x0 : List UInt8) : Option (Bool) := (sims_G1_0_0.2.2.2.1 x0).1
theorem spec_interchangeref2_beginsTag (x0 : List UInt8) : ∀ r, m_interchangeref2_beginsTag x0 = some r → PureSpec Tryz.prog 107 [.str x0] (.bool r) := (sims_G1_0_0.2.2.2.1 x0).2
noncomputable def m_interchangeref2_checkText (x0 : List UInt8) : Option (Int) := (sims_G1_0_0.2.2.2.2 x0).1
theorem spec_interchangeref2_checkText (x0 : List UInt8) : ∀ r, m_interchangeref2_checkText x0 = some r → PureSpec Tryz.prog 108 [.str x0] (.int .i64 r) := (sims_G1_0_0.2.2.2.2 x0).2

/-- interchange/wire.isMarkByte -/
def sc_wire_isMarkByte : SC :=
  (.seq (.reg [.r 2 (.mv (.c (.d (.bool false))))])
  (.seq (.reg [.r 4 (.mv (.t 0)),
     .r 5 (.cvis (.t 4)),
     .r 3 (.mv (.t 5))])
  (.seq (.reg (.r 6 (.mv (.t 0)) :: .r 7 (.bin .geq (.t 6) (.c (.d (.int .u8 33)))) :: .r 8 (.mv (.t 7)) :: gapp [9, 10] 8 true (.r 9 (.mv (.t 0)) :: .r 10 (.bin .leq (.t 9) (.c (.d (.int .u8 126)))) :: []) (.r 11 (.pick (.t 8) (.t 10) (.c (.d (.bool false)))) :: .r 12 (.mv (.t 11)) :: gapp [13, 14, 15] 12 true (.r 13 (.mv (.t 3)) :: .c 14 (.f 76) [.t 13] :: .r 15 (.not (.t 14)) :: []) (.r 16 (.pick (.t 12) (.t 15) (.c (.d (.bool false)))) :: .r 17 (.mv (.t 16)) :: gapp [18, 19, 20] 17 true (.r 18 (.mv (.t 3)) :: .c 19 (.f 77) [.t 18, .c (.d (.int .u8 97)), .c (.d (.int .u8 122))] :: .r 20 (.not (.t 19)) :: []) (.r 21 (.pick (.t 17) (.t 20) (.c (.d (.bool false)))) :: .r 22 (.mv (.t 21)) :: gapp [23, 24, 25] 22 true (.r 23 (.mv (.t 3)) :: .c 24 (.f 78) [.t 23, .c (.d (.str [46, 45, 43, 95]))] :: .r 25 (.not (.t 24)) :: []) (.r 26 (.pick (.t 22) (.t 25) (.c (.d (.bool false)))) :: .r 2 (.mv (.t 26)) :: []))))))
  .ret)))
theorem fit_wire_isMarkByte : fits Tryz.prog 55 Tryz.f55 sc_wire_isMarkByte [.t 2] 1 = true := by kernel_rfl

/-- slices.Contains[[]byte,byte] -/
def sc_slices_Contains_byte_byte : SC :=
  (.seq (.reg [.r 4 (.mv (.c (.d (.bool false))))])
  (.seq (.reg [.r 5 (.mv (.t 0)),
     .r 6 (.mv (.t 1)),
     .c 7 (.f 79) [.t 5, .t 6],
     .r 8 (.bin .geq (.t 7) (.c (.d (.int .i64 0)))),
     .r 4 (.mv (.t 8))])
  .ret))
theorem fit_slices_Contains_byte_byte : fits Tryz.prog 56 Tryz.f56 sc_slices_Contains_byte_byte [.t 4] 2 = true := by kernel_rfl

/-- interchange/kit.IsTag -/
def sc_kit_IsTag : SC :=
  (.seq (.reg [.r 2 (.mv (.c (.d (.bool false))))])
  (.seq (.reg (.r 3 (.mv (.t 0)) :: .r 4 (.lenT (.t 3)) :: .r 5 (.bin .geq (.t 4) (.c (.d (.int .i64 2)))) :: .r 6 (.mv (.t 5)) :: gapp [7, 8, 9] 6 true (.r 7 (.mv (.t 0)) :: .r 8 (.lenT (.t 7)) :: .r 9 (.bin .leq (.t 8) (.c (.d (.int .i64 6)))) :: []) (.r 10 (.pick (.t 6) (.t 9) (.c (.d (.bool false)))) :: .r 11 (.mv (.t 10)) :: gapp [12, 13, 14, 15] 11 true (.r 12 (.mv (.t 0)) :: .r 13 (.sidx (.t 12) (.c (.d (.int .i64 0)))) :: .c 14 (.f 95) [.c (.d (.str [65, 66, 67, 68, 69, 70, 71, 72, 73, 74, 75, 76, 77, 78, 79, 80, 81, 82, 83, 84, 85, 86, 87, 88, 89, 90])), .t 13] :: .r 15 (.bin .geq (.t 14) (.c (.d (.int .i64 0)))) :: []) (.r 16 (.pick (.t 11) (.t 15) (.c (.d (.bool false)))) :: .r 17 (.mv (.t 16)) :: gapp [18, 19] 17 true (.r 18 (.mv (.t 0)) :: .c 19 (.f 76) [.t 18] :: []) (.r 20 (.pick (.t 17) (.t 19) (.c (.d (.bool false)))) :: .r 2 (.mv (.t 20)) :: [])))))
  .ret))
theorem fit_kit_IsTag : fits Tryz.prog 81 Tryz.f81 sc_kit_IsTag [.t 2] 1 = true := by kernel_rfl

/-- interchange/kit.IsText -/
def sc_kit_IsText : SC :=
  (.seq (.reg [.r 2 (.mv (.c (.d (.bool false))))])
  (.seq (.reg (.r 3 (.mv (.t 0)) :: .r 4 (.lenT (.t 3)) :: .r 5 (.bin .leq (.t 4) (.c (.d (.int .i64 1000)))) :: .r 6 (.mv (.t 5)) :: gapp [7, 8] 6 true (.r 7 (.mv (.t 0)) :: .c 8 (.f 77) [.t 7, .c (.d (.int .u8 32)), .c (.d (.int .u8 126))] :: []) (.r 9 (.pick (.t 6) (.t 8) (.c (.d (.bool false)))) :: .r 2 (.mv (.t 9)) :: [])))
  .ret))
theorem fit_kit_IsText : fits Tryz.prog 106 Tryz.f106 sc_kit_IsText [.t 2] 1 = true := by kernel_rfl

/-- interchange/interchangeref2.IsTag -/
def sc_interchangeref2_IsTag : SC :=
  (.seq (.reg [.r 2 (.mv (.c (.d (.bool false))))])
  (.seq (.reg (.r 3 (.mv (.t 0)) :: .r 4 (.lenT (.t 3)) :: .r 5 (.bin .geq (.t 4) (.c (.d (.int .i64 2)))) :: .r 6 (.mv (.t 5)) :: gapp [7, 8] 6 true (.r 7 (.mv (.t 0)) :: .c 8 (.f 107) [.t 7] :: []) (.r 9 (.pick (.t 6) (.t 8) (.c (.d (.bool false)))) :: .r 2 (.mv (.t 9)) :: [])))
  .ret))
theorem fit_interchangeref2_IsTag : fits Tryz.prog 100 Tryz.f100 sc_interchangeref2_IsTag [.t 2] 1 = true := by kernel_rfl

def sc_interchangeref2_checkElement_L1 : SC :=
  (.seq (.seq (.reg [.r 35 (.mv (.t 4)),
     .r 36 (.fld 0 (.t 1)),
     .o 37 (.ld1 (.t 36)),
     .r 38 (.mv (.t 3)),
     .r 39 (.idx 1 (.t 37) (.t 38)),
     .o 40 (.ld1 (.t 39)),
     .r 41 (.len (.t 40)),
     .r 42 (.bin .lss (.t 35) (.t 41))])
  (.cond (.t 42)
    .skip
    (.exit 2)))
  (.seq (.block 3 (.seq (.reg [.r 45 (.fld 0 (.t 1)),
       .o 46 (.ld1 (.t 45)),
       .r 47 (.mv (.t 3)),
       .r 48 (.idx 1 (.t 46) (.t 47)),
       .o 49 (.ld1 (.t 48)),
       .r 50 (.mv (.t 4)),
       .r 51 (.idx 1 (.t 49) (.t 50)),
       .o 52 (.ld1 (.t 51)),
       .c 53 (.f 108) [.t 52],
       .r 5 (.mv (.t 53))])
    (.seq (.reg [.r 54 (.mv (.t 5)),
       .r 55 (.bin .neq (.t 54) (.c (.d (.int .i64 0))))])
    (.cond (.t 55)
      (.seq (.reg [.r 56 (.mv (.t 5)),
         .r 2 (.mv (.t 56))])
      .ret)
      .skip))))
  (.reg [.r 43 (.mv (.t 4)),
     .r 44 (.bin .add (.t 43) (.c (.d (.int .i64 1)))),
     .r 4 (.mv (.t 44))])))
def sc_interchangeref2_checkElement_B1 : SC := .block 2 (.loop sc_interchangeref2_checkElement_L1)
def sc_interchangeref2_checkElement_L2 : SC :=
  (.seq (.seq (.reg [.r 14 (.mv (.t 3)),
     .r 15 (.fld 0 (.t 1)),
     .o 16 (.ld1 (.t 15)),
     .r 17 (.len (.t 16)),
     .r 18 (.bin .lss (.t 14) (.t 17))])
  (.cond (.t 18)
    .skip
    (.exit 0)))
  (.seq (.block 1 (.seq (.seq (.reg [.r 21 (.fld 0 (.t 1)),
       .o 22 (.ld1 (.t 21)),
       .r 23 (.mv (.t 3)),
       .r 24 (.idx 1 (.t 22) (.t 23)),
       .o 25 (.ld1 (.t 24)),
       .r 26 (.len (.t 25)),
       .r 27 (.bin .eql (.t 26) (.c (.d (.int .i64 0))))])
    (.cond (.t 27)
      (.seq (.reg [.r 2 (.mv (.c (.d (.int .i64 9))))])
      .ret)
      .skip))
    (.seq (.seq (.reg [.r 28 (.fld 0 (.t 1)),
       .o 29 (.ld1 (.t 28)),
       .r 30 (.mv (.t 3)),
       .r 31 (.idx 1 (.t 29) (.t 30)),
       .o 32 (.ld1 (.t 31)),
       .r 33 (.len (.t 32)),
       .r 34 (.bin .gtr (.t 33) (.c (.d (.int .i64 20))))])
    (.cond (.t 34)
      (.seq (.reg [.r 2 (.mv (.c (.d (.int .i64 2))))])
      .ret)
      .skip))
    (.seq (.reg [.r 4 (.mv (.c (.d (.int .i64 0))))])
    sc_interchangeref2_checkElement_B1))))
  (.reg [.r 19 (.mv (.t 3)),
     .r 20 (.bin .add (.t 19) (.c (.d (.int .i64 1)))),
     .r 3 (.mv (.t 20))])))
def sc_interchangeref2_checkElement_B2 : SC := .block 0 (.loop sc_interchangeref2_checkElement_L2)
/-- interchange/interchangeref2.checkElement -/
def sc_interchangeref2_checkElement : SC :=
  (.seq (.reg [.r 1 (.boxI (.t 0)),
     .r 2 (.mv (.c (.d (.int .i64 0))))])
  (.seq (.seq (.reg [.r 6 (.fld 0 (.t 1)),
     .o 7 (.ld1 (.t 6)),
     .r 8 (.len (.t 7)),
     .r 9 (.bin .eql (.t 8) (.c (.d (.int .i64 0))))])
  (.cond (.t 9)
    (.seq (.reg [.r 2 (.mv (.c (.d (.int .i64 9))))])
    .ret)
    .skip))
  (.seq (.seq (.reg [.r 10 (.fld 0 (.t 1)),
     .o 11 (.ld1 (.t 10)),
     .r 12 (.len (.t 11)),
     .r 13 (.bin .gtr (.t 12) (.c (.d (.int .i64 20))))])
  (.cond (.t 13)
    (.seq (.reg [.r 2 (.mv (.c (.d (.int .i64 2))))])
    .ret)
    .skip))
  (.seq (.seq (.reg [.r 3 (.mv (.c (.d (.int .i64 0))))])
  sc_interchangeref2_checkElement_B2)
  (.seq (.reg [.r 2 (.mv (.c (.d (.int .i64 0))))])
  .ret)))))
theorem fit_interchangeref2_checkElement : fits Tryz.prog 101 Tryz.f101 sc_interchangeref2_checkElement [.t 2] 1 = true := by kernel_rfl

set_option maxRecDepth 100000 in
set_option maxHeartbeats 40000000 in
noncomputable def sims_G1_1_0 : (∀ (x0 : UInt8), {m : Option (Bool) // ∀ r, m = some r → PureSpec Tryz.prog 55 [.int .u8 (x0).toNat] (.bool r)}) × (∀ (x0 : List UInt8) (x1 : UInt8), {m : Option (Bool) // ∀ r, m = some r → PureSpec Tryz.prog 56 [.slice (List.map rowY x0), .int .u8 (x1).toNat] (.bool r)}) × (∀ (x0 : List UInt8), {m : Option (Bool) // ∀ r, m = some r → PureSpec Tryz.prog 81 [.str x0] (.bool r)}) × (∀ (x0 : List UInt8), {m : Option (Bool) // ∀ r, m = some r → PureSpec Tryz.prog 106 [.str x0] (.bool r)}) × (∀ (x0 : List UInt8), {m : Option (Bool) // ∀ r, m = some r → PureSpec Tryz.prog 100 [.str x0] (.bool r)}) × (∀ (x0 : Tapi_Element), {m : Option (Int) // ∀ r, m = some r → PureSpec Tryz.prog 101 [.agg (rTapi_Element x0)] (.int .i64 r)}) := by
  refine ⟨?g0, ?g1, ?g2, ?g3, ?g4, ?g5⟩
  case' g0 => (intro x0; apply Subtype.mk; intro r hm; apply pure_walk Tryz.func55 fit_wire_isMarkByte; unfold sc_wire_isMarkByte)
  case' g1 => (intro x0 x1; apply Subtype.mk; intro r hm; apply pure_walk Tryz.func56 fit_slices_Contains_byte_byte; unfold sc_slices_Contains_byte_byte)
  case' g2 => (intro x0; apply Subtype.mk; intro r hm; apply pure_walk Tryz.func81 fit_kit_IsTag; unfold sc_kit_IsTag)
  case' g3 => (intro x0; apply Subtype.mk; intro r hm; apply pure_walk Tryz.func106 fit_kit_IsText; unfold sc_kit_IsText)
  case' g4 => (intro x0; apply Subtype.mk; intro r hm; apply pure_walk Tryz.func100 fit_interchangeref2_IsTag; unfold sc_interchangeref2_IsTag)
  case' g5 => (intro x0; apply Subtype.mk; intro r hm; apply pure_walk Tryz.func101 fit_interchangeref2_checkElement; unfold sc_interchangeref2_checkElement)
  all_goals (repeat' (first | with_reducible refine W_seq ?_ | with_reducible refine W_reg ?_ | with_reducible refine W_block ?_ | with_reducible refine W_skip ?_ | with_reducible refine W_ret ?_ | with_reducible refine W_exit ?_ | with_reducible refine O_nil ?_ | with_reducible refine K_seq ?_ | with_reducible refine K_seqE ?_ | with_reducible refine K_seqR ?_ | with_reducible refine K_block ?_ | with_reducible refine K_blockR ?_ | with_reducible refine O_o2r ?_ | ((with_reducible apply O_idxr hm); (iterate 2 (simp only [push_cast, seval]; rfl)); (intro _; rfl); intro e hm) | ((with_reducible apply O_sidxr hm); (iterate 2 (simp only [push_cast, seval]; rfl)); intro e hm) | ((with_reducible apply O_r); (simp only [push_cast, seval]; rfl); (first | exact trivial)) | ((with_reducible apply O_and hm); (simp only [push_cast, seval]; rfl); rfl; intro v hm; rotate_left; intro v g hm) | ((with_reducible apply O_cF hm); (simp only [push_cast, seval]; rfl); (first | apply spec_kit_IsTagPart _ | apply spec_kit_InBytes _ _ _ | apply spec_strings_ContainsAny _ _ | apply spec_slices_Index_byte_byte _ _ | apply spec_strings_IndexByte _ _ | apply spec_interchangeref2_beginsTag _ | apply spec_interchangeref2_checkText _); (any_goals ((repeat' (first | rfl | (with_reducible first | apply f_cons) | (with_reducible apply f_byte; decide))); done)); intro x hm) | ((with_reducible apply S_condB hm); (simp only [push_cast, seval]; rfl); intro hm; rotate_left; intro hm) | ((with_reducible apply K_endS hm); (focus (simp only [resOf, resL, RV.get, push_cast, seval]; rfl)); (focus ((repeat' (first | rfl)); done))) | ((with_reducible apply K_bool hm); (simp only [push_cast, seval]; rfl)) | ((with_reducible apply K_leave hm); intro r hm) | ((with_reducible apply K_leaveR hm); intro r hm) | ((apply S_loopY (b := 2) (X := sc_interchangeref2_checkElement_B1) (x := sc_interchangeref2_checkElement_L1) rfl (fun (c : SV × SV) (s : Int) => st [(1, c.1), (3, c.2), (4, .d (.int .i64 s))] []) (c := (_, _)) (s0 := _) hm); (focus (first | (dsimp only; done))); (with_reducible refine Then.mk ?_ ?_)) | ((apply S_loopY (b := 0) (X := sc_interchangeref2_checkElement_B2) (x := sc_interchangeref2_checkElement_L2) rfl (fun (c : SV) (s : Int) => st [(1, c), (3, .d (.int .i64 s))] []) (c := _) (s0 := _) hm); (focus (first | (dsimp only; done))); (with_reducible refine Then.mk ?_ ?_)) | ((apply K_next (s' := _) hm); (focus (first | (dsimp only; done)))) | ((apply K_brk (s' := _) hm); (focus (first | (dsimp only; done)))) | (((with_reducible apply K_brkR hm); intro r hm)) | (((with_reducible apply LoopB.of); (focus (first | (dsimp only; done))); (focus ((intro _; repeat' (first | with_reducible exact impC_end | with_reducible refine impC_seq ?_ | with_reducible refine impC_block ?_ | ((with_reducible refine impC_rnd ?_); intro _) | ((with_reducible refine impC_brk ?_); intro _))))); (intro s o hm; first | unfold sc_interchangeref2_checkElement_L1 | unfold sc_interchangeref2_checkElement_L2); rotate_left; intro s hm)) | (((apply imp_stT; (repeat' (first | with_reducible exact keepT_nil | with_reducible exact keepC_nil | with_reducible apply keepT_cons | ((with_reducible apply svle_eq); (focus (first | (simp only [push_cast, seval]; rfl))); (focus ((repeat' (first | rfl)); done))))); done)))))
noncomputable def m_wire_isMarkByte (x0 : UInt8) : Option (Bool) := (sims_G1_1_0.1 x0).1
theorem spec_wire_isMarkByte (x0 : UInt8) : ∀ r, m_wire_isMarkByte x0 = some r → PureSpec Tryz.prog 55 [.int .u8 (x0).toNat] (.bool r) := (sims_G1_1_0.1 x0).2
noncomputable def m_slices_Contains_byte_byte (x0 : List UInt8) (x1 : UInt8) : Option (Bool) := (sims_G1_1_0.2.1 x0 x1).1
theorem spec_slices_Contains_byte_byte (x0 : List UInt8) (x1 : UInt8) : ∀ r, m_slices_Contains_byte_byte x0 x1 = some r → PureSpec Tryz.prog 56 [.slice (List.map rowY x0), .int .u8 (x1).toNat] (.bool r) := (sims_G1_1_0.2.1 x0 x1).2
noncomputable def m_kit_IsTag (x0 : List UInt8) : Option (Bool) := (sims_G1_1_0.2.2.1 x0).1
theorem spec_kit_IsTag (x0 : List UInt8) : ∀ r, m_kit_IsTag x0 = some r → PureSpec Tryz.prog 81 [.str x0] (.bool r) := (sims_G1_1_0.2.2.1 x0).2
noncomputable def m_kit_IsText (x0 : List UInt8) : Option (Bool) := (sims_G1_1_0.2.2.2.1 x0).1
theorem spec_kit_IsText (x0 : List UInt8) : ∀ r, m_kit_IsText x0 = some r → PureSpec Tryz.prog 106 [.str x0] (.bool r) := (sims_G1_1_0.2.2.2.1 x0).2
noncomputable def m_interchangeref2_IsTag (x0 : List UInt8) : Option (Bool) := (sims_G1_1_0.2.2.2.2.1 x0).1
theorem spec_interchangeref2_IsTag (x0 : List UInt8) : ∀ r, m_interchangeref2_IsTag x0 = some r → PureSpec Tryz.prog 100 [.str x0] (.bool r) := (sims_G1_1_0.2.2.2.2.1 x0).2
noncomputable def m_interchangeref2_checkElement (x0 : Tapi_Element) : Option (Int) := (sims_G1_1_0.2.2.2.2.2 x0).1
theorem spec_interchangeref2_checkElement (x0 : Tapi_Element) : ∀ r, m_interchangeref2_checkElement x0 = some r → PureSpec Tryz.prog 101 [.agg (rTapi_Element x0)] (.int .i64 r) := (sims_G1_1_0.2.2.2.2.2 x0).2

def sc_wire_CheckMarks_L1 : SC :=
  (.seq (.reg [.r 20 (.bin .lss (.t 19) (.t 18))])
  (.seq (.cond (.t 20)
    .skip
    (.exit 0))
  (.seq (.block 1 (.seq (.reg [.r 21 (.idx 1 (.t 17) (.t 19)),
       .o 22 (.ld1 (.t 21)),
       .r 5 (.mv (.t 22))])
    (.seq (.reg [.r 23 (.mv (.t 5)),
       .c 24 (.f 55) [.t 23],
       .r 25 (.not (.t 24))])
    (.cond (.t 25)
      (.seq (.reg [.r 2 (.mv (.c (.d (.int .i64 3))))])
      .ret)
      .skip))))
  (.reg [.r 26 (.bin .add (.t 19) (.c (.d (.int .i64 1)))),
     .r 19 (.mv (.t 26))]))))
def sc_wire_CheckMarks_B1 : SC := .block 0 (.loop sc_wire_CheckMarks_L1)
def sc_wire_CheckMarks_L2 : SC :=
  (.seq (.reg [.r 43 (.bin .lss (.t 42) (.t 41))])
  (.seq (.cond (.t 43)
    .skip
    (.exit 2))
  (.seq (.block 3 (.seq (.reg [.r 44 (.mv (.t 42)),
       .r 45 (.idx 1 (.t 40) (.t 42)),
       .o 46 (.ld1 (.t 45)),
       .r 6 (.mv (.t 44)),
       .r 7 (.mv (.t 46))])
    (.seq (.reg [.r 47 (.mv (.t 3)),
       .r 48 (.mv (.t 6)),
       .r 49 (.mv (.t 3)),
       .r 50 (.len (.t 49)),
       .r 51 (.mins (.t 48) [.t 50]),
       .r 52 (.slc 1 (.t 47) none (some (.t 51))),
       .r 53 (.mv (.t 7)),
       .c 54 (.f 56) [.t 52, .t 53]])
    (.cond (.t 54)
      (.seq (.reg [.r 2 (.mv (.c (.d (.int .i64 7))))])
      .ret)
      .skip))))
  (.reg [.r 55 (.bin .add (.t 42) (.c (.d (.int .i64 1)))),
     .r 42 (.mv (.t 55))]))))
def sc_wire_CheckMarks_B2 : SC := .block 2 (.loop sc_wire_CheckMarks_L2)
/-- interchange/wire.CheckMarks -/
def sc_wire_CheckMarks : SC :=
  (.seq (.reg [.r 1 (.boxI (.t 0)),
     .r 2 (.mv (.c (.d (.int .i64 0))))])
  (.seq (.reg [.r 8 (.fld 0 (.t 1)),
     .o 9 (.ld1 (.t 8)),
     .r 10 (.fld 1 (.t 1)),
     .o 11 (.ld1 (.t 10)),
     .r 12 (.fld 2 (.t 1)),
     .o 13 (.ld1 (.t 12)),
     .r 14 (.fld 4 (.t 1)),
     .o 15 (.ld1 (.t 14)),
     .r 16 (.bslice 1 [.t 9, .t 11, .t 13, .t 15]),
     .r 3 (.mv (.t 16))])
  (.seq (.seq (.reg [.r 17 (.mv (.t 3)),
     .r 18 (.len (.t 17)),
     .r 19 (.mv (.c (.d (.int .i64 0))))])
  sc_wire_CheckMarks_B1)
  (.seq (.seq (.reg (.r 27 (.fld 3 (.t 1)) :: .o 28 (.ld1 (.t 27)) :: .r 29 (.bin .neq (.t 28) (.c (.d (.int .u8 0)))) :: .r 30 (.mv (.t 29)) :: gapp [31, 32, 33, 34] 30 true (.r 31 (.fld 3 (.t 1)) :: .r 32 (.ld1 (.t 31)) :: .c 33 (.f 55) [.t 32] :: .r 34 (.not (.t 33)) :: []) (.r 35 (.pick (.t 30) (.t 34) (.c (.d (.bool false)))) :: [])))
  (.cond (.t 35)
    (.seq (.reg [.r 2 (.mv (.c (.d (.int .i64 3))))])
    .ret)
    .skip))
  (.seq (.seq (.reg [.r 36 (.mv (.t 3)),
     .r 37 (.fld 3 (.t 1)),
     .o 38 (.ld1 (.t 37)),
     .r 39 (.bslice 1 [.t 38]),
     .w 40 (.app 5 1 (.t 36) (.t 39)),
     .r 41 (.len (.t 40)),
     .r 42 (.mv (.c (.d (.int .i64 0))))])
  sc_wire_CheckMarks_B2)
  (.seq (.reg [.r 2 (.mv (.c (.d (.int .i64 0))))])
  .ret))))))
theorem fit_wire_CheckMarks : fits Tryz.prog 37 Tryz.f37 sc_wire_CheckMarks [.t 2] 1 = true := by kernel_rfl

/-- interchange/wire.textFault -/
def sc_wire_textFault : SC :=
  (.seq (.reg [.r 2 (.mv (.c (.d (.int .i64 0))))])
  (.seq (.seq (.reg [.r 3 (.mv (.t 0)),
     .r 4 (.lenT (.t 3)),
     .r 5 (.bin .gtr (.t 4) (.c (.d (.int .i64 1000))))])
  (.cond (.t 5)
    (.seq (.reg [.r 2 (.mv (.c (.d (.int .i64 2))))])
    .ret)
    .skip))
  (.seq (.seq (.reg [.r 6 (.mv (.t 0)),
     .c 7 (.f 106) [.t 6],
     .r 8 (.not (.t 7))])
  (.cond (.t 8)
    (.seq (.reg [.r 2 (.mv (.c (.d (.int .i64 3))))])
    .ret)
    .skip))
  (.seq (.reg [.r 2 (.mv (.c (.d (.int .i64 0))))])
  .ret))))
theorem fit_wire_textFault : fits Tryz.prog 96 Tryz.f96 sc_wire_textFault [.t 2] 1 = true := by kernel_rfl

def sc_interchangeref2_CheckOne_L1 : SC :=
  (.seq (.seq (.reg [.r 13 (.mv (.t 3)),
     .r 14 (.fld 1 (.t 1)),
     .o 15 (.ld1 (.t 14)),
     .r 16 (.len (.t 15)),
     .r 17 (.bin .lss (.t 13) (.t 16))])
  (.cond (.t 17)
    .skip
    (.exit 0)))
  (.seq (.block 1 (.seq (.reg [.r 20 (.fld 1 (.t 1)),
       .o 21 (.ld1 (.t 20)),
       .r 22 (.mv (.t 3)),
       .r 23 (.idx 1 (.t 21) (.t 22)),
       .o 24 (.ldA 1 (.t 23)),
       .c 25 (.f 101) [.t 24],
       .r 4 (.mv (.t 25))])
    (.seq (.reg [.r 26 (.mv (.t 4)),
       .r 27 (.bin .neq (.t 26) (.c (.d (.int .i64 0))))])
    (.cond (.t 27)
      (.seq (.reg [.r 28 (.mv (.t 4)),
         .r 2 (.mv (.t 28))])
      .ret)
      .skip))))
  (.reg [.r 18 (.mv (.t 3)),
     .r 19 (.bin .add (.t 18) (.c (.d (.int .i64 1)))),
     .r 3 (.mv (.t 19))])))
def sc_interchangeref2_CheckOne_B1 : SC := .block 0 (.loop sc_interchangeref2_CheckOne_L1)
/-- interchange/interchangeref2.CheckOne -/
def sc_interchangeref2_CheckOne : SC :=
  (.seq (.reg [.r 1 (.boxI (.t 0)),
     .r 2 (.mv (.c (.d (.int .i64 0))))])
  (.seq (.seq (.reg [.r 5 (.fld 0 (.t 1)),
     .o 6 (.ld1 (.t 5)),
     .c 7 (.f 100) [.t 6],
     .r 8 (.not (.t 7))])
  (.cond (.t 8)
    (.seq (.reg [.r 2 (.mv (.c (.d (.int .i64 5))))])
    .ret)
    .skip))
  (.seq (.seq (.reg [.r 9 (.fld 1 (.t 1)),
     .o 10 (.ld1 (.t 9)),
     .r 11 (.len (.t 10)),
     .r 12 (.bin .gtr (.t 11) (.c (.d (.int .i64 50))))])
  (.cond (.t 12)
    (.seq (.reg [.r 2 (.mv (.c (.d (.int .i64 2))))])
    .ret)
    .skip))
  (.seq (.seq (.reg [.r 3 (.mv (.c (.d (.int .i64 0))))])
  sc_interchangeref2_CheckOne_B1)
  (.seq (.reg [.r 2 (.mv (.c (.d (.int .i64 0))))])
  .ret)))))
theorem fit_interchangeref2_CheckOne : fits Tryz.prog 87 Tryz.f87 sc_interchangeref2_CheckOne [.t 2] 1 = true := by kernel_rfl

set_option maxRecDepth 100000 in
set_option maxHeartbeats 40000000 in
noncomputable def sims_G1_2_0 : (∀ (x0 : Tapi_Marks), {m : Option (Int) // ∀ r, m = some r → PureSpec Tryz.prog 37 [.agg (rTapi_Marks x0)] (.int .i64 r)}) × (∀ (x0 : List UInt8), {m : Option (Int) // ∀ r, m = some r → PureSpec Tryz.prog 96 [.str x0] (.int .i64 r)}) × (∀ (x0 : Tapi_Segment), {m : Option (Int) // ∀ r, m = some r → PureSpec Tryz.prog 87 [.agg (rTapi_Segment x0)] (.int .i64 r)}) := by
  refine ⟨?g0, ?g1, ?g2⟩
  case' g0 => (intro x0; apply Subtype.mk; intro r hm; apply pure_walk Tryz.func37 fit_wire_CheckMarks; unfold sc_wire_CheckMarks)
  case' g1 => (intro x0; apply Subtype.mk; intro r hm; apply pure_walk Tryz.func96 fit_wire_textFault; unfold sc_wire_textFault)
  case' g2 => (intro x0; apply Subtype.mk; intro r hm; apply pure_walk Tryz.func87 fit_interchangeref2_CheckOne; unfold sc_interchangeref2_CheckOne)
  all_goals (repeat' (first | with_reducible refine W_seq ?_ | with_reducible refine W_reg ?_ | with_reducible refine W_block ?_ | with_reducible refine W_skip ?_ | with_reducible refine W_ret ?_ | with_reducible refine W_exit ?_ | with_reducible refine O_nil ?_ | with_reducible refine K_seq ?_ | with_reducible refine K_seqE ?_ | with_reducible refine K_seqR ?_ | with_reducible refine K_block ?_ | with_reducible refine K_blockR ?_ | with_reducible refine O_o2r ?_ | ((with_reducible apply O_idxr hm); (iterate 2 (simp only [push_cast, seval]; rfl)); (intro _; rfl); intro e hm) | ((with_reducible apply O_idxVr hm); (iterate 3 (simp only [push_cast, seval]; rfl)); intro e hm) | ((with_reducible apply O_idxLr hm (row := rowY)); (iterate 2 (simp only [push_cast, seval]; rfl)); (focus ((repeat' (first | rfl | (with_reducible first | apply dv_slice | apply fold_nil | apply fold_cons))); done)); (simp only [push_cast, seval]; rfl); (intro _; rfl); intro e hm) | ((with_reducible apply O_slcLr hm (row := rowY)); (iterate 2 (simp only [push_cast, seval]; rfl)); (focus ((repeat' (first | rfl | (with_reducible first | apply dv_slice | apply fold_nil | apply fold_cons))); done)); (iterate 2 (simp only [push_cast, seval]; rfl)); intro e hm) | ((with_reducible apply O_r); (simp only [push_cast, seval]; rfl); (first | exact trivial)) | ((with_reducible apply O_ldV1r hm); (iterate 2 (simp only [push_cast, seval]; rfl)); (intro _; rfl); intro e hm) | ((with_reducible apply O_and hm); (simp only [push_cast, seval]; rfl); rfl; intro v hm; rotate_left; intro v g hm) | ((with_reducible apply O_cF hm); (simp only [push_cast, seval]; rfl); (first | apply spec_wire_isMarkByte _ | apply spec_slices_Contains_byte_byte _ _ | apply spec_kit_IsText _ | apply spec_interchangeref2_IsTag _ | apply spec_interchangeref2_checkElement _); (any_goals ((repeat' (first | rfl)); done)); intro x hm) | ((with_reducible apply O_appL hm (row := rowY)); (iterate 5 (simp only [push_cast, seval]; rfl)); (focus ((repeat' (first | rfl | (with_reducible first | apply dv_slice | apply fold_nil | apply fold_cons))); done)); (focus ((repeat' (first | rfl | (with_reducible first | apply dv_slice | apply fold_nil | apply fold_cons))); done)); rfl; decide; (intro _; rfl); intro hm) | ((with_reducible apply S_condB hm); (simp only [push_cast, seval]; rfl); intro hm; rotate_left; intro hm) | ((with_reducible apply K_endS hm); (focus (simp only [resOf, resL, RV.get, push_cast, seval]; rfl)); (focus ((repeat' (first | rfl)); done))) | ((with_reducible apply K_bool hm); (simp only [push_cast, seval]; rfl)) | ((with_reducible apply K_leave hm); intro r hm) | ((with_reducible apply K_leaveR hm); intro r hm) | ((apply S_loopY (b := 0) (X := sc_wire_CheckMarks_B1) (x := sc_wire_CheckMarks_L1) rfl (fun (c : SV × SV × SV × SV) (s : Int) => st [(1, c.1), (3, c.2.1), (17, c.2.2.1), (18, c.2.2.2), (19, .d (.int .i64 s))] []) (c := (_, _, _, _)) (s0 := _) hm); (focus (first | (dsimp only; done))); (with_reducible refine Then.mk ?_ ?_)) | ((apply S_loopY (b := 2) (X := sc_wire_CheckMarks_B2) (x := sc_wire_CheckMarks_L2) rfl (fun (c : SV × Ch × SV) (s : Int) => st [(3, c.1), (40, .vec 40), (41, c.2.2), (42, .d (.int .i64 s))] [(40, c.2.1)]) (c := (_, _, _)) (s0 := _) hm); (focus (first | (dsimp only; done))); (with_reducible refine Then.mk ?_ ?_)) | ((apply S_loopY (b := 0) (X := sc_interchangeref2_CheckOne_B1) (x := sc_interchangeref2_CheckOne_L1) rfl (fun (c : SV) (s : Int) => st [(1, c), (3, .d (.int .i64 s))] []) (c := _) (s0 := _) hm); (focus (first | (dsimp only; done))); (with_reducible refine Then.mk ?_ ?_)) | ((apply K_next (s' := _) hm); (focus (first | (dsimp only; done)))) | ((apply K_brk (s' := _) hm); (focus (first | (dsimp only; done)))) | (((with_reducible apply K_brkR hm); intro r hm)) | (((with_reducible apply LoopB.of); (focus (first | (dsimp only; done))); (focus ((intro _; repeat' (first | with_reducible exact impC_end | with_reducible refine impC_seq ?_)))); (intro s o hm; first | unfold sc_wire_CheckMarks_L1 | unfold sc_wire_CheckMarks_L2 | unfold sc_interchangeref2_CheckOne_L1); rotate_left; intro s hm)) | (((apply imp_stT; (repeat' (first | with_reducible exact keepT_nil | with_reducible exact keepC_nil | with_reducible apply keepT_cons | with_reducible apply keepC_cons | ((with_reducible apply svle_eq); (focus (first | (simp only [push_cast, seval]; rfl))); (focus ((repeat' (first | rfl)); done))) | ((with_reducible apply chle_eq); (focus (first | (simp only [push_cast, seval]; rfl))); (first | with_reducible exact chle_rfl rfl)))); done)))))
noncomputable def m_wire_CheckMarks (x0 : Tapi_Marks) : Option (Int) := (sims_G1_2_0.1 x0).1
theorem spec_wire_CheckMarks (x0 : Tapi_Marks) : ∀ r, m_wire_CheckMarks x0 = some r → PureSpec Tryz.prog 37 [.agg (rTapi_Marks x0)] (.int .i64 r) := (sims_G1_2_0.1 x0).2
noncomputable def m_wire_textFault (x0 : List UInt8) : Option (Int) := (sims_G1_2_0.2.1 x0).1
theorem spec_wire_textFault (x0 : List UInt8) : ∀ r, m_wire_textFault x0 = some r → PureSpec Tryz.prog 96 [.str x0] (.int .i64 r) := (sims_G1_2_0.2.1 x0).2
noncomputable def m_interchangeref2_CheckOne (x0 : Tapi_Segment) : Option (Int) := (sims_G1_2_0.2.2 x0).1
theorem spec_interchangeref2_CheckOne (x0 : Tapi_Segment) : ∀ r, m_interchangeref2_CheckOne x0 = some r → PureSpec Tryz.prog 87 [.agg (rTapi_Segment x0)] (.int .i64 r) := (sims_G1_2_0.2.2 x0).2

def sc_wire_elementFault_L1 : SC :=
  (.seq (.reg [.r 32 (.bin .lss (.t 31) (.t 30))])
  (.seq (.cond (.t 32)
    .skip
    (.exit 2))
  (.seq (.block 3 (.seq (.reg [.r 33 (.idx 1 (.t 29) (.t 31)),
       .o 34 (.ld1 (.t 33)),
       .r 6 (.mv (.t 34))])
    (.seq (.reg [.r 35 (.mv (.t 6)),
       .c 36 (.f 96) [.t 35],
       .r 7 (.mv (.t 36))])
    (.seq (.reg [.r 37 (.mv (.t 7)),
       .r 38 (.bin .neq (.t 37) (.c (.d (.int .i64 0))))])
    (.cond (.t 38)
      (.seq (.reg [.r 39 (.mv (.t 7)),
         .r 2 (.mv (.t 39))])
      .ret)
      .skip)))))
  (.reg [.r 40 (.bin .add (.t 31) (.c (.d (.int .i64 1)))),
     .r 31 (.mv (.t 40))]))))
def sc_wire_elementFault_B1 : SC := .block 2 (.loop sc_wire_elementFault_L1)
def sc_wire_elementFault_L2 : SC :=
  (.seq (.reg [.r 20 (.bin .lss (.t 19) (.t 18))])
  (.seq (.cond (.t 20)
    .skip
    (.exit 0))
  (.seq (.block 1 (.seq (.reg [.r 21 (.idx 1 (.t 17) (.t 19)),
       .o 22 (.ld1 (.t 21)),
       .r 4 (.mv (.t 22))])
    (.seq (.seq (.reg [.r 23 (.mv (.t 4)),
       .r 24 (.len (.t 23)),
       .r 25 (.bin .eql (.t 24) (.c (.d (.int .i64 0))))])
    (.cond (.t 25)
      (.seq (.reg [.r 2 (.mv (.c (.d (.int .i64 9))))])
      .ret)
      .skip))
    (.seq (.seq (.reg [.r 26 (.mv (.t 4)),
       .r 27 (.len (.t 26)),
       .r 28 (.bin .gtr (.t 27) (.c (.d (.int .i64 20))))])
    (.cond (.t 28)
      (.seq (.reg [.r 2 (.mv (.c (.d (.int .i64 2))))])
      .ret)
      .skip))
    (.seq (.reg [.r 29 (.mv (.t 4)),
       .r 30 (.len (.t 29)),
       .r 31 (.mv (.c (.d (.int .i64 0))))])
    sc_wire_elementFault_B1)))))
  (.reg [.r 41 (.bin .add (.t 19) (.c (.d (.int .i64 1)))),
     .r 19 (.mv (.t 41))]))))
def sc_wire_elementFault_B2 : SC := .block 0 (.loop sc_wire_elementFault_L2)
/-- interchange/wire.elementFault -/
def sc_wire_elementFault : SC :=
  (.seq (.reg [.r 1 (.boxI (.t 0)),
     .r 2 (.mv (.c (.d (.int .i64 0))))])
  (.seq (.seq (.reg [.r 8 (.fld 0 (.t 1)),
     .o 9 (.ld1 (.t 8)),
     .r 10 (.len (.t 9)),
     .r 11 (.bin .eql (.t 10) (.c (.d (.int .i64 0))))])
  (.cond (.t 11)
    (.seq (.reg [.r 2 (.mv (.c (.d (.int .i64 9))))])
    .ret)
    .skip))
  (.seq (.seq (.reg [.r 12 (.fld 0 (.t 1)),
     .o 13 (.ld1 (.t 12)),
     .r 14 (.len (.t 13)),
     .r 15 (.bin .gtr (.t 14) (.c (.d (.int .i64 20))))])
  (.cond (.t 15)
    (.seq (.reg [.r 2 (.mv (.c (.d (.int .i64 2))))])
    .ret)
    .skip))
  (.seq (.seq (.reg [.r 16 (.fld 0 (.t 1)),
     .o 17 (.ld1 (.t 16)),
     .r 18 (.len (.t 17)),
     .r 19 (.mv (.c (.d (.int .i64 0))))])
  sc_wire_elementFault_B2)
  (.seq (.reg [.r 2 (.mv (.c (.d (.int .i64 0))))])
  .ret)))))
theorem fit_wire_elementFault : fits Tryz.prog 82 Tryz.f82 sc_wire_elementFault [.t 2] 1 = true := by kernel_rfl

def sc_interchangeref2_CheckSegments_L1 : SC :=
  (.seq (.seq (.reg [.r 8 (.mv (.t 3)),
     .r 9 (.mv (.t 0)),
     .r 10 (.len (.t 9)),
     .r 11 (.bin .lss (.t 8) (.t 10))])
  (.cond (.t 11)
    .skip
    (.exit 0)))
  (.seq (.block 1 (.seq (.reg [.r 14 (.mv (.t 0)),
       .r 15 (.mv (.t 3)),
       .r 16 (.idx 2 (.t 14) (.t 15)),
       .o 17 (.ldA 2 (.t 16)),
       .c 18 (.f 87) [.t 17],
       .r 4 (.mv (.t 18))])
    (.seq (.reg [.r 19 (.mv (.t 4)),
       .r 20 (.bin .neq (.t 19) (.c (.d (.int .i64 0))))])
    (.cond (.t 20)
      (.seq (.reg [.r 21 (.mv (.t 4)),
         .r 2 (.mv (.t 21))])
      .ret)
      .skip))))
  (.reg [.r 12 (.mv (.t 3)),
     .r 13 (.bin .add (.t 12) (.c (.d (.int .i64 1)))),
     .r 3 (.mv (.t 13))])))
def sc_interchangeref2_CheckSegments_B1 : SC := .block 0 (.loop sc_interchangeref2_CheckSegments_L1)
/-- interchange/interchangeref2.CheckSegments -/
def sc_interchangeref2_CheckSegments : SC :=
  (.seq (.reg [.r 2 (.mv (.c (.d (.int .i64 0))))])
  (.seq (.seq (.reg [.r 5 (.mv (.t 0)),
     .r 6 (.len (.t 5)),
     .r 7 (.bin .gtr (.t 6) (.c (.d (.int .i64 2000))))])
  (.cond (.t 7)
    (.seq (.reg [.r 2 (.mv (.c (.d (.int .i64 2))))])
    .ret)
    .skip))
  (.seq (.seq (.reg [.r 3 (.mv (.c (.d (.int .i64 0))))])
  sc_interchangeref2_CheckSegments_B1)
  (.seq (.reg [.r 2 (.mv (.c (.d (.int .i64 0))))])
  .ret))))
theorem fit_interchangeref2_CheckSegments : fits Tryz.prog 68 Tryz.f68 sc_interchangeref2_CheckSegments [.t 2] 1 = true := by kernel_rfl

set_option maxRecDepth 100000 in
set_option maxHeartbeats 40000000 in
noncomputable def sims_G1_3_0 : (∀ (x0 : Tapi_Element), {m : Option (Int) // ∀ r, m = some r → PureSpec Tryz.prog 82 [.agg (rTapi_Element x0)] (.int .i64 r)}) × (∀ (x0 : List Tapi_Segment), {m : Option (Int) // ∀ r, m = some r → PureSpec Tryz.prog 68 [.slice (List.map rTapi_Segment x0)] (.int .i64 r)}) := by
  refine ⟨?g0, ?g1⟩
  case' g0 => (intro x0; apply Subtype.mk; intro r hm; apply pure_walk Tryz.func82 fit_wire_elementFault; unfold sc_wire_elementFault)
  case' g1 => (intro x0; apply Subtype.mk; intro r hm; apply pure_walk Tryz.func68 fit_interchangeref2_CheckSegments; unfold sc_interchangeref2_CheckSegments)
  all_goals (repeat' (first | with_reducible refine W_seq ?_ | with_reducible refine W_reg ?_ | with_reducible refine W_block ?_ | with_reducible refine W_skip ?_ | with_reducible refine W_ret ?_ | with_reducible refine W_exit ?_ | with_reducible refine O_nil ?_ | with_reducible refine K_seq ?_ | with_reducible refine K_seqE ?_ | with_reducible refine K_seqR ?_ | with_reducible refine K_block ?_ | with_reducible refine K_blockR ?_ | with_reducible refine O_o2r ?_ | ((with_reducible apply O_idxr hm); (iterate 2 (simp only [push_cast, seval]; rfl)); (intro _; rfl); intro e hm) | ((with_reducible apply O_r); (simp only [push_cast, seval]; rfl); (first | exact trivial)) | ((with_reducible apply O_cF hm); (simp only [push_cast, seval]; rfl); (first | apply spec_wire_textFault _ | apply spec_interchangeref2_CheckOne _); (any_goals ((repeat' (first | rfl)); done)); intro x hm) | ((with_reducible apply S_condB hm); (simp only [push_cast, seval]; rfl); intro hm; rotate_left; intro hm) | ((with_reducible apply K_endS hm); (focus (simp only [resOf, resL, RV.get, push_cast, seval]; rfl)); (focus ((repeat' (first | rfl)); done))) | ((with_reducible apply K_leave hm); intro r hm) | ((with_reducible apply K_leaveR hm); intro r hm) | ((apply S_loopY (b := 2) (X := sc_wire_elementFault_B1) (x := sc_wire_elementFault_L1) rfl (fun (c : SV × SV × SV × SV × SV) (s : Int) => st [(17, c.1), (18, c.2.1), (19, c.2.2.1), (29, c.2.2.2.1), (30, c.2.2.2.2), (31, .d (.int .i64 s))] []) (c := (_, _, _, _, _)) (s0 := _) hm); (focus (first | (dsimp only; done))); (with_reducible refine Then.mk ?_ ?_)) | ((apply S_loopY (b := 0) (X := sc_wire_elementFault_B2) (x := sc_wire_elementFault_L2) rfl (fun (c : SV × SV) (s : Int) => st [(17, c.1), (18, c.2), (19, .d (.int .i64 s))] []) (c := (_, _)) (s0 := _) hm); (focus (first | (dsimp only; done))); (with_reducible refine Then.mk ?_ ?_)) | ((apply S_loopY (b := 0) (X := sc_interchangeref2_CheckSegments_B1) (x := sc_interchangeref2_CheckSegments_L1) rfl (fun (c : SV) (s : Int) => st [(0, c), (3, .d (.int .i64 s))] []) (c := _) (s0 := _) hm); (focus (first | (dsimp only; done))); (with_reducible refine Then.mk ?_ ?_)) | ((apply K_next (s' := _) hm); (focus (first | (dsimp only; done)))) | ((apply K_brk (s' := _) hm); (focus (first | (dsimp only; done)))) | (((with_reducible apply K_brkR hm); intro r hm)) | (((with_reducible apply LoopB.of); (focus (first | (dsimp only; done))); (focus ((intro _; repeat' (first | with_reducible exact impC_end | with_reducible refine impC_seq ?_ | with_reducible refine impC_block ?_ | ((with_reducible refine impC_rnd ?_); intro _) | ((with_reducible refine impC_brk ?_); intro _))))); (intro s o hm; first | unfold sc_wire_elementFault_L1 | unfold sc_wire_elementFault_L2 | unfold sc_interchangeref2_CheckSegments_L1); rotate_left; intro s hm)) | (((apply imp_stT; (repeat' (first | with_reducible exact keepT_nil | with_reducible exact keepC_nil | with_reducible apply keepT_cons | ((with_reducible apply svle_eq); (focus (first | (simp only [push_cast, seval]; rfl))); (focus ((repeat' (first | rfl)); done))))); done)))))
noncomputable def m_wire_elementFault (x0 : Tapi_Element) : Option (Int) := (sims_G1_3_0.1 x0).1
theorem spec_wire_elementFault (x0 : Tapi_Element) : ∀ r, m_wire_elementFault x0 = some r → PureSpec Tryz.prog 82 [.agg (rTapi_Element x0)] (.int .i64 r) := (sims_G1_3_0.1 x0).2
noncomputable def m_interchangeref2_CheckSegments (x0 : List Tapi_Segment) : Option (Int) := (sims_G1_3_0.2 x0).1
theorem spec_interchangeref2_CheckSegments (x0 : List Tapi_Segment) : ∀ r, m_interchangeref2_CheckSegments x0 = some r → PureSpec Tryz.prog 68 [.slice (List.map rTapi_Segment x0)] (.int .i64 r) := (sims_G1_3_0.2 x0).2

def sc_wire_CheckSegments_L1 : SC :=
  (.seq (.reg [.r 29 (.bin .lss (.t 28) (.t 27))])
  (.seq (.cond (.t 29)
    .skip
    (.exit 2))
  (.seq (.block 3 (.seq (.reg [.r 30 (.idx 1 (.t 26) (.t 28)),
       .o 31 (.ldA 1 (.t 30)),
       .w 6 (.boxM (.c (.agg [.nils]))),
       .w 0 (.st 1 (.t 6) (.t 31))])
    (.seq (.reg [.o 32 (.ldA 1 (.t 6)),
       .c 33 (.f 82) [.t 32],
       .r 7 (.mv (.t 33))])
    (.seq (.reg [.r 34 (.mv (.t 7)),
       .r 35 (.bin .neq (.t 34) (.c (.d (.int .i64 0))))])
    (.cond (.t 35)
      (.seq (.reg [.r 36 (.mv (.t 7)),
         .r 2 (.mv (.t 36))])
      .ret)
      .skip)))))
  (.reg [.r 37 (.bin .add (.t 28) (.c (.d (.int .i64 1)))),
     .r 28 (.mv (.t 37))]))))
def sc_wire_CheckSegments_B1 : SC := .block 2 (.loop sc_wire_CheckSegments_L1)
def sc_wire_CheckSegments_L2 : SC :=
  (.seq (.reg [.r 14 (.bin .lss (.t 13) (.t 12))])
  (.seq (.cond (.t 14)
    .skip
    (.exit 0))
  (.seq (.block 1 (.seq (.reg [.r 15 (.idx 2 (.t 11) (.t 13)),
       .o 16 (.ldA 2 (.t 15)),
       .w 4 (.boxM (.c (.agg [.d (.str []), .nils]))),
       .w 0 (.st 2 (.t 4) (.t 16))])
    (.seq (.seq (.reg [.r 17 (.fld 0 (.t 4)),
       .o 18 (.ld1 (.t 17)),
       .c 19 (.f 81) [.t 18],
       .r 20 (.not (.t 19))])
    (.cond (.t 20)
      (.seq (.reg [.r 2 (.mv (.c (.d (.int .i64 5))))])
      .ret)
      .skip))
    (.seq (.seq (.reg [.r 21 (.fld 1 (.t 4)),
       .o 22 (.ld1 (.t 21)),
       .r 23 (.len (.t 22)),
       .r 24 (.bin .gtr (.t 23) (.c (.d (.int .i64 50))))])
    (.cond (.t 24)
      (.seq (.reg [.r 2 (.mv (.c (.d (.int .i64 2))))])
      .ret)
      .skip))
    (.seq (.reg [.r 25 (.fld 1 (.t 4)),
       .o 26 (.ld1 (.t 25)),
       .r 27 (.len (.t 26)),
       .r 28 (.mv (.c (.d (.int .i64 0))))])
    sc_wire_CheckSegments_B1)))))
  (.reg [.r 38 (.bin .add (.t 13) (.c (.d (.int .i64 1)))),
     .r 13 (.mv (.t 38))]))))
def sc_wire_CheckSegments_B2 : SC := .block 0 (.loop sc_wire_CheckSegments_L2)
/-- interchange/wire.CheckSegments -/
def sc_wire_CheckSegments : SC :=
  (.seq (.reg [.r 2 (.mv (.c (.d (.int .i64 0))))])
  (.seq (.seq (.reg [.r 8 (.mv (.t 0)),
     .r 9 (.len (.t 8)),
     .r 10 (.bin .gtr (.t 9) (.c (.d (.int .i64 2000))))])
  (.cond (.t 10)
    (.seq (.reg [.r 2 (.mv (.c (.d (.int .i64 2))))])
    .ret)
    .skip))
  (.seq (.seq (.reg [.r 11 (.mv (.t 0)),
     .r 12 (.len (.t 11)),
     .r 13 (.mv (.c (.d (.int .i64 0))))])
  sc_wire_CheckSegments_B2)
  (.seq (.reg [.r 2 (.mv (.c (.d (.int .i64 0))))])
  .ret))))
theorem fit_wire_CheckSegments : fits Tryz.prog 60 Tryz.f60 sc_wire_CheckSegments [.t 2] 1 = true := by kernel_rfl

set_option maxRecDepth 100000 in
set_option maxHeartbeats 40000000 in
noncomputable def sims_G1_4_0 : (∀ (x0 : List Tapi_Segment), {m : Option (Int) // ∀ r, m = some r → PureSpec Tryz.prog 60 [.slice (List.map rTapi_Segment x0)] (.int .i64 r)}) := by
  (intro x0; apply Subtype.mk; intro r hm; apply pure_walk Tryz.func60 fit_wire_CheckSegments; unfold sc_wire_CheckSegments)
  repeat' (first | with_reducible refine W_seq ?_ | with_reducible refine W_reg ?_ | with_reducible refine W_block ?_ | with_reducible refine W_skip ?_ | with_reducible refine W_ret ?_ | with_reducible refine W_exit ?_ | with_reducible refine O_nil ?_ | with_reducible refine K_seq ?_ | with_reducible refine K_seqE ?_ | with_reducible refine K_seqR ?_ | with_reducible refine K_block ?_ | with_reducible refine K_blockR ?_ | with_reducible refine O_o2r ?_ | ((with_reducible apply O_idxr hm); (iterate 2 (simp only [push_cast, seval]; rfl)); (intro _; rfl); intro e hm) | ((with_reducible apply O_r); (simp only [push_cast, seval]; rfl); (first | exact trivial)) | ((with_reducible apply O_cF hm); (simp only [push_cast, seval]; rfl); (first | apply spec_kit_IsTag _ | apply spec_wire_elementFault _); (any_goals ((repeat' (first | rfl)); done)); intro x hm) | ((with_reducible apply O_w); (simp only [push_cast, seval]; rfl); (first | exact trivial)) | ((with_reducible apply S_condB hm); (simp only [push_cast, seval]; rfl); intro hm; rotate_left; intro hm) | ((with_reducible apply K_endS hm); (focus (simp only [resOf, resL, RV.get, push_cast, seval]; rfl)); (focus ((repeat' (first | rfl)); done))) | ((with_reducible apply K_leave hm); intro r hm) | ((with_reducible apply K_leaveR hm); intro r hm) | ((apply S_loopY (b := 2) (X := sc_wire_CheckSegments_B1) (x := sc_wire_CheckSegments_L1) rfl (fun (c : SV × SV × SV × SV × SV) (s : Int) => st [(11, c.1), (12, c.2.1), (13, c.2.2.1), (26, c.2.2.2.1), (27, c.2.2.2.2), (28, .d (.int .i64 s))] []) (c := (_, _, _, _, _)) (s0 := _) hm); (focus (first | (dsimp only; done))); (with_reducible refine Then.mk ?_ ?_)) | ((apply S_loopY (b := 0) (X := sc_wire_CheckSegments_B2) (x := sc_wire_CheckSegments_L2) rfl (fun (c : SV × SV) (s : Int) => st [(11, c.1), (12, c.2), (13, .d (.int .i64 s))] []) (c := (_, _)) (s0 := _) hm); (focus (first | (dsimp only; done))); (with_reducible refine Then.mk ?_ ?_)) | ((apply K_next (s' := _) hm); (focus (first | (dsimp only; done)))) | ((apply K_brk (s' := _) hm); (focus (first | (dsimp only; done)))) | (((with_reducible apply K_brkR hm); intro r hm)) | (((with_reducible apply LoopB.of); (focus (first | (dsimp only; done))); (focus ((intro _; repeat' (first | with_reducible exact impC_end | with_reducible refine impC_seq ?_ | with_reducible refine impC_block ?_ | ((with_reducible refine impC_rnd ?_); intro _) | ((with_reducible refine impC_brk ?_); intro _))))); (intro s o hm; first | unfold sc_wire_CheckSegments_L1 | unfold sc_wire_CheckSegments_L2); rotate_left; intro s hm)) | (((apply imp_stT; (repeat' (first | with_reducible exact keepT_nil | with_reducible exact keepC_nil | with_reducible apply keepT_cons | ((with_reducible apply svle_eq); (focus (first | (simp only [push_cast, seval]; rfl))); (focus ((repeat' (first | rfl)); done))))); done))))
noncomputable def m_wire_CheckSegments (x0 : List Tapi_Segment) : Option (Int) := (sims_G1_4_0 x0).1
theorem spec_wire_CheckSegments (x0 : List Tapi_Segment) : ∀ r, m_wire_CheckSegments x0 = some r → PureSpec Tryz.prog 60 [.slice (List.map rTapi_Segment x0)] (.int .i64 r) := (sims_G1_4_0 x0).2

end Go.Proofs.YthcfbglbjipdaaaGreatDoor

/-
  A row that a call has made, as data.
-/
namespace Go.Proofs.YthcfbglbjipdaaaGreatDoor
set_option linter.unusedSimpArgs false
set_option linter.unusedVariables false
open Go.RowKit Go.Lib
theorem dR_toDVs : ∀ (l : List DV), SV.toDVs (dR l) = some l
  | [] => rfl
  | d :: l => by
    have ih := dR_toDVs l
    simp only [dR, List.map_cons, SV.toDVs, SV.toDV] at ih ⊢
    rw [ih]
end Go.Proofs.YthcfbglbjipdaaaGreatDoor

/-
  Calls whose result is an owned slice.
-/
namespace Go.Proofs.YthcfbglbjipdaaaGreatDoor
set_option linter.unusedSimpArgs false
set_option linter.unusedVariables false
open Go.RowKit Go.Lib

theorem dR_flat : ∀ (rows : List (List DV)), (rows.map dR).flatten = dR rows.flatten
  | [] => rfl
  | r :: rows => by
    have ih := dR_flat rows
    simp only [dR, List.map_cons, List.flatten_cons, List.map_append] at ih ⊢
    rw [ih]
/-- A contract whose result is an owned slice, out of what the kit says of the call. -/
theorem own_spec {P : Program} {f : FuncId} {args : List DV} {rows : List (List DV)} {size e : Nat} (hcall : callable P f = true) (hall : ∀ r ∈ rows, r.length = size)
    (h : ∀ (w : World) (M : Nat → Prop) (vs : List Value), (∀ b, M b → b < w.heap.size) → RepL w M args vs → Calls P f vs.toArray w fun ev w' => ∃ v news, ev = .returned v ∧ w'.ownsRow w.heap.size e size v rows.length news ∧ RepL w M rows.flatten news ∧ (∀ u ∈ news, u.oneCell' = true) ∧ Below w.heap.size w w') :
    FSpec P f (args.map .d) (.own (.sl e (List.replicate size .sh)) (.slice rows)) (args.map .d) := by
  refine ⟨hcall, fun w M vs F hM hF hn hv _ _ => ?_⟩
  have hno : SV.noOwns (args.map SV.d) = true := toDVs_noOwns _ _ (dR_toDVs args)
  obtain ⟨hS, rfl⟩ := RepGL.to_S _ _ _ hno hv
  have hR := RepSL.toDVs _ _ _ hS (dR_toDVs args)
  refine (h w _ vs (fun b hb => by rcases hb with hb | hb; exact (hM b hb).1; cases hb) hR).mono ?_
  rintro ev w' ⟨v, news, rfl, ho, hnews, h1, hB⟩
  have hfresh : ∀ b ∈ blkL v, w.heap.size ≤ b ∧ b < w'.heap.size := by
    intro b hb
    rcases ho.2 with ⟨rfl, _⟩ | ⟨g, cap, cur, rfl, hb2, hg, _⟩
    · simp [blkL, blk] at hb
    · simp [blkL, blk] at hb
      subst hb
      exact ⟨hb2, (Array.getElem?_eq_some_iff.1 hg).1⟩
  have hext : Ext w (fun b => M b ∨ b ∈ ([] : List Nat)) w' (fun b => M b ∨ b ∈ [] ++ blkL v) := ⟨hB.size, fun b hb hm => ⟨hB.block b hb, fun hm' => by
    rcases hm' with hm' | hm'
    · exact hm (.inl hm')
    · have := (hfresh b (by simpa using hm')).1; omega⟩⟩
  refine ⟨v, [], blkL v, rfl, RepGL.of_S _ _ (RepSL.of_d (hR.ext hext)), ?_, ?_, ?_, Chg.of_below hB⟩
  · unfold RepG RepO
    refine ⟨rows, news, [], rfl, ⟨by simpa using ho.1, ?_⟩, h1, by simpa using hall, ?_, by simp⟩
    · rcases ho.2 with hn | ⟨g, cap, cur, hv, hb, rest⟩
      · exact .inl hn
      · simp only [List.length_replicate]
        exact .inr ⟨g, cap, cur, hv, Nat.zero_le _, rest⟩
    · refine (ownRows_iff (κ := κ0) (by simpa using hall)).1 ?_
      have e1 : rows.map (ownR (List.replicate size .sh)) = rows.map dR := List.map_congr_left fun r hr => by
        have := ownR_sh (row := fun _ : Unit => r) (n := size) (fun _ => hall r hr) [()]
        simpa [vrow] using this
      rw [e1, dR_flat]
      exact RepGL.of_S _ _ (RepSL.of_d (hnews.ext hext))
  · cases hv' : blk v with
    | none => simp [blkL, hv']
    | some b => simp [blkL, hv']
  · intro b hb
    have := hfresh b (by simpa using hb)
    exact ⟨.inr this.1, this.2⟩

end Go.Proofs.YthcfbglbjipdaaaGreatDoor

/-
  Calls whose result is an owned slice and a number.
-/
namespace Go.Proofs.YthcfbglbjipdaaaGreatDoor
set_option linter.unusedSimpArgs false
set_option linter.unusedVariables false
open Go.RowKit Go.Lib

theorem ownsRow_le {w : World} {n m e s k : Nat} {v : Value} {xs : List Value} (h : n ≤ m) (ho : w.ownsRow m e s v k xs) : w.ownsRow n e s v k xs := by
  refine ⟨ho.1, ?_⟩
  rcases ho.2 with hn | ⟨g, cap, cur, hv, hb, rest⟩
  · exact .inl hn
  · exact .inr ⟨g, cap, cur, hv, Nat.le_trans h hb, rest⟩
/-- A contract whose result is an owned slice and a number, out of what the kit says of the call. -/
theorem own_spec2 {P : Program} {f : FuncId} {args : List DV} {rows : List (List DV)} {size e : Nat} {n : Int} (hcall : callable P f = true) (hall : ∀ r ∈ rows, r.length = size)
    (h : ∀ (w : World) (M : Nat → Prop) (vs : List Value), (∀ b, M b → b < w.heap.size) → RepL w M args vs → Good w → Calls P f vs.toArray w fun ev w' => ∃ v news, ev = .returned (.tuple #[v, .int .i64 n]) ∧ w'.ownsRow w.heap.size e size v rows.length news ∧ RepL w M rows.flatten news ∧ (∀ u ∈ news, u.oneCell' = true) ∧ Below w.heap.size w w') :
    FSpec P f (args.map .d) (.tup [.own (.sl e (List.replicate size .sh)) (.slice rows), .d (.int .i64 n)]) (args.map .d) := by
  refine ⟨hcall, fun w M vs F hM hF hn hv hg _ => ?_⟩
  have hno : SV.noOwns (args.map SV.d) = true := toDVs_noOwns _ _ (dR_toDVs args)
  obtain ⟨hS, rfl⟩ := RepGL.to_S _ _ _ hno hv
  have hR := RepSL.toDVs _ _ _ hS (dR_toDVs args)
  refine (h w _ vs (fun b hb => by rcases hb with hb | hb; exact (hM b hb).1; cases hb) hR hg).mono ?_
  rintro ev w' ⟨v, news, rfl, ho, hnews, h1, hB⟩
  have hfresh : ∀ b ∈ blkL v, w.heap.size ≤ b ∧ b < w'.heap.size := by
    intro b hb
    rcases ho.2 with ⟨rfl, _⟩ | ⟨g, cap, cur, rfl, hb2, hg, _⟩
    · simp [blkL, blk] at hb
    · simp [blkL, blk] at hb
      subst hb
      exact ⟨hb2, (Array.getElem?_eq_some_iff.1 hg).1⟩
  have hext : Ext w (fun b => M b ∨ b ∈ ([] : List Nat)) w' (fun b => M b ∨ b ∈ [] ++ blkL v) := ⟨hB.size, fun b hb hm => ⟨hB.block b hb, fun hm' => by
    rcases hm' with hm' | hm'
    · exact hm (.inl hm')
    · have := (hfresh b (by simpa using hm')).1; omega⟩⟩
  refine ⟨_, [], blkL v, rfl, RepGL.of_S _ _ (RepSL.of_d (hR.ext hext)), ?_, ?_, ?_, Chg.of_below hB⟩
  · unfold RepG
    refine ⟨[v, .int .i64 n], rfl, ?_⟩
    simp only [RepGL]
    refine ⟨v, _, blkL v, [], rfl, (List.append_nil _).symm, ?_, _, _, [], [], rfl, rfl, ?_, rfl, rfl⟩
    rotate_left
    · unfold RepG; exact ⟨rfl, by simp only [RepS, Rep]⟩
    unfold RepG RepO
    refine ⟨rows, news, [], rfl, ⟨by simpa using ho.1, ?_⟩, h1, by simpa using hall, ?_, by simp⟩
    · rcases ho.2 with hn | ⟨g, cap, cur, hv, hb, rest⟩
      · exact .inl hn
      · simp only [List.length_replicate]
        exact .inr ⟨g, cap, cur, hv, Nat.zero_le _, rest⟩
    · refine (ownRows_iff (κ := κ0) (by simpa using hall)).1 ?_
      have e1 : rows.map (ownR (List.replicate size .sh)) = rows.map dR := List.map_congr_left fun r hr => by
        have := ownR_sh (row := fun _ : Unit => r) (n := size) (fun _ => hall r hr) [()]
        simpa [vrow] using this
      rw [e1, dR_flat]
      exact RepGL.of_S _ _ (RepSL.of_d (hnews.ext hext))
  · cases hv' : blk v with
    | none => simp [blkL, hv']
    | some b => simp [blkL, hv']
  · intro b hb
    have := hfresh b (by simpa using hb)
    exact ⟨.inr this.1, this.2⟩

end Go.Proofs.YthcfbglbjipdaaaGreatDoor

/-
  wire.Heading, by hand: the one place where bytes of a constant string are appended to.
-/
namespace Go.Proofs.YthcfbglbjipdaaaGreatDoor
set_option linter.unusedSimpArgs false
set_option linter.unusedVariables false
open Go.RowKit Go.Shelf Go.Lib

def hbytes (x : Tapi_Marks) : List UInt8 := [77, 82, 75, x.fElement, x.fPart, x.fRepeat, if x.fEscape = 0 then 32 else x.fEscape, x.fEnd]
noncomputable def m_wire_Heading (x0 : Tapi_Marks) : Option (List UInt8 × Int) := (m_wire_CheckMarks x0).bind fun c => if c = 0 then some (hbytes x0, 0) else some ([], c)
theorem alloc_row (w : World) (C : Array Value) (e : TypeId) (m : Nat × Nat) (j : Nat) (u : Value) (h : C.toList[j]? = some u) : (w.alloc (.cells C e m)).cell? ((⟨w.heap.size, 0, none⟩ : Addr).add j) = some u := by
  have hh : (w.alloc (.cells C e m)).heap[w.heap.size]? = some (.cells C e m) := by
    show (w.heap.push _)[w.heap.size]? = _
    simp
  rw [Addr.add_lit]
  unfold World.cell?
  rw [hh]
  simpa using h
theorem alloc_row2 (w : World) (o : Obj) (C : Array Value) (e : TypeId) (m : Nat × Nat) (j : Nat) (u : Value) (h : C.toList[j]? = some u) : ((w.alloc o).alloc (.cells C e m)).cell? ((⟨w.heap.size + 1, 0, none⟩ : Addr).add j) = some u := by
  have hs : (w.alloc o).heap.size = w.heap.size + 1 := by show (w.heap.push _).size = _; rw [Array.size_push]
  have := alloc_row (w.alloc o) C e m j u h
  rwa [hs] at this
theorem esc_t (b : UInt8) (h : ((b.toNat : Int) == 0) = true) : (if b = 0 then (32 : UInt8) else b) = 32 := by
  have h1 : (b.toNat : Int) = 0 := by simpa using h
  have h2 : b = 0 := UInt8.toNat_inj.1 (by show b.toNat = 0; omega)
  rw [if_pos h2]
theorem esc_f (b : UInt8) (h : ((b.toNat : Int) == 0) = false) : (if b = 0 then (32 : UInt8) else b) = b := by
  rw [if_neg]
  rintro rfl
  simp at h
set_option maxRecDepth 100000 in
theorem inf5 : ∃ i z, Tryz.prog.info? 5 = some i ∧ i.zero = some z ∧ i.size = 1 ∧ i.bytes = 1 ∧ z.cells.size = 1 := ⟨_, _, rfl, rfl, rfl, rfl, rfl⟩
set_option maxRecDepth 100000 in
set_option maxHeartbeats 4000000 in
theorem heading_calls (x0 : Tapi_Marks) (r : List UInt8 × Int) (hr : m_wire_Heading x0 = some r) (w : World) (M : Nat → Prop) (vs : List Value) (hM : ∀ b, M b → b < w.heap.size) (hv : RepL w M [.agg (rTapi_Marks x0)] vs) (hg : Good w) :
    Calls Tryz.prog 23 vs.toArray w fun ev w' => ∃ v, ev = .returned (.tuple #[v, .int .i64 r.2]) ∧ w'.ownsRow w.heap.size 5 1 v r.1.length (r.1.map fun b => (b.toNat : Int) |> Value.int .u8) ∧ Below w.heap.size w w' := by
  unfold m_wire_Heading at hr
  cases hc : m_wire_CheckMarks x0 with
  | none => rw [hc] at hr; cases hr
  | some c =>
  rw [hc] at hr
  simp only [Option.bind_some] at hr
  have hp := spec_wire_CheckMarks x0 c hc
  simp only [RepL, Rep, rTapi_Marks] at hv
  obtain ⟨u, us, rfl, ⟨vs, rfl, -, u0, us0, rfl, rfl, u1, us1, rfl, rfl, u2, us2, rfl, rfl, u3, us3, rfl, rfl, u4, us4, rfl, rfl, rfl⟩, rfl⟩ := hv
  have hcon := hp.2 (w.alloc (.cells #[.int .u8 x0.fElement.toNat, .int .u8 x0.fPart.toNat, .int .u8 x0.fRepeat.toNat, .int .u8 x0.fEscape.toNat, .int .u8 x0.fEnd.toNat] 58)) M _ (fun b hb => by have := hM b hb; show b < (w.heap.push _).size; rw [Array.size_push]; omega) (by simp only [RepL, Rep, rTapi_Marks]; exact ⟨_, _, rfl, ⟨_, rfl, by simp [Value.oneCell'], _, _, rfl, rfl, _, _, rfl, rfl, _, _, rfl, rfl, _, _, rfl, rfl, _, _, rfl, rfl, rfl⟩, rfl⟩) (hg.below ((Below.refl _ w).alloc (Nat.le_refl _) _))
  have kc := fun (w : World) (C : Array Value) (n c : Nat) => Lib.run_convert_bytes_const (P := Tryz.prog) w 54 5 C n c Tryz.underlying54 Tryz.underlying5
  have hsz : (w.alloc (.cells #[.int .u8 x0.fElement.toNat, .int .u8 x0.fPart.toNat, .int .u8 x0.fRepeat.toNat, .int .u8 x0.fEscape.toNat, .int .u8 x0.fEnd.toNat] 58)).heap.size = w.heap.size + 1 := by show (w.heap.push _).size = _; rw [Array.size_push]
  have hcell : ∀ k, (w.alloc (.cells #[.int .u8 x0.fElement.toNat, .int .u8 x0.fPart.toNat, .int .u8 x0.fRepeat.toNat, .int .u8 x0.fEscape.toNat, .int .u8 x0.fEnd.toNat] 58)).cell? ⟨w.heap.size, k, none⟩ = (#[.int .u8 x0.fElement.toNat, .int .u8 x0.fPart.toNat, .int .u8 x0.fRepeat.toNat, .int .u8 x0.fEscape.toNat, .int .u8 x0.fEnd.toNat] : Array Value)[k]? := by
    intro k
    have hh : (w.alloc (.cells #[.int .u8 x0.fElement.toNat, .int .u8 x0.fPart.toNat, .int .u8 x0.fRepeat.toNat, .int .u8 x0.fEscape.toNat, .int .u8 x0.fEnd.toNat] 58)).heap[w.heap.size]? = some (.cells #[.int .u8 x0.fElement.toNat, .int .u8 x0.fPart.toNat, .int .u8 x0.fRepeat.toNat, .int .u8 x0.fEscape.toNat, .int .u8 x0.fEnd.toNat] 58) := by
      show (w.heap.push _)[w.heap.size]? = _
      simp
    unfold World.cell?
    rw [hh]
    rfl
  by_cases h0 : c = 0
  · subst h0
    obtain ⟨i0, z, hi, hz0, hz1, hz2, hzs⟩ := inf5
    go_enter Tryz.func23, Tryz.ntmps23
    go_wp2_with (first | (go_at_call 37; refine hcon.mono ?_; rintro e w' ⟨v, rfl, hrep, hB⟩; simp only [Rep] at hrep; subst hrep; have c0 := (hB.cell (p := ⟨w.heap.size, 0, none⟩) (by rw [hsz]; exact Nat.lt_succ_self _)).trans (hcell 0); have c1 := (hB.cell (p := ⟨w.heap.size, 1, none⟩) (by rw [hsz]; exact Nat.lt_succ_self _)).trans (hcell 1); have c2 := (hB.cell (p := ⟨w.heap.size, 2, none⟩) (by rw [hsz]; exact Nat.lt_succ_self _)).trans (hcell 2); have c3 := (hB.cell (p := ⟨w.heap.size, 3, none⟩) (by rw [hsz]; exact Nat.lt_succ_self _)).trans (hcell 3); have c4 := (hB.cell (p := ⟨w.heap.size, 4, none⟩) (by rw [hsz]; exact Nat.lt_succ_self _)).trans (hcell 4); dsimp at c0 c1 c2 c3 c4; have d0 := fun o => Lib.cell?_alloc_marked (W := w') o c0; have d1 := fun o => Lib.cell?_alloc_marked (W := w') o c1; have d2 := fun o => Lib.cell?_alloc_marked (W := w') o c2; have d3 := fun o => Lib.cell?_alloc_marked (W := w') o c3; have d4 := fun o => Lib.cell?_alloc_marked (W := w') o c4) | (at_builtin; refine wpList_append_grows _ rfl _ _ 54 rfl 5 i0 z 1 1 Tryz.underlying54 hi hz0 hz1 hz2 hzs (by decide) _ 3 3 [.int .u8 77, .int .u8 82, .int .u8 75] rfl (fun h => by cases h) rfl (by rintro b ⟨⟩ j u hj; exact Lib.cell?_alloc_marked _ (alloc_row _ _ _ _ j u hj)) _ 5 _ [.int .u8 x0.fElement.toNat, .int .u8 x0.fPart.toNat, .int .u8 x0.fRepeat.toNat, .int .u8 32, .int .u8 x0.fEnd.toNat] rfl rfl (by intro j u hj; exact alloc_row2 _ _ _ _ _ j u hj) (by simp [Value.oneCell']) (by decide) (by decide) (by decide) ?_) | (at_builtin; refine wpList_append_grows _ rfl _ _ 54 rfl 5 i0 z 1 1 Tryz.underlying54 hi hz0 hz1 hz2 hzs (by decide) _ 3 3 [.int .u8 77, .int .u8 82, .int .u8 75] rfl (fun h => by cases h) rfl (by rintro b ⟨⟩ j u hj; exact Lib.cell?_alloc_marked _ (alloc_row _ _ _ _ j u hj)) _ 5 _ [.int .u8 x0.fElement.toNat, .int .u8 x0.fPart.toNat, .int .u8 x0.fRepeat.toNat, .int .u8 x0.fEscape.toNat, .int .u8 x0.fEnd.toNat] rfl rfl (by intro j u hj; exact alloc_row2 _ _ _ _ _ j u hj) (by simp [Value.oneCell']) (by decide) (by decide) (by decide) ?_))
    · intro v' w2 hown hgrow
      have he : ((x0.fEscape.toNat : Int) == 0) = true := by assumption
      rw [if_pos trivial] at hr
      cases hr
      have hW : Below w.heap.size w w' := ((Below.refl _ w).alloc (Nat.le_refl _) _).trans (hB.mono (by rw [hsz]; omega))
      have hle := hW.size
      have hB2 : Below w.heap.size w w2 := ((hW.alloc hle _).alloc (by show _ ≤ (w'.heap.push _).size; rw [Array.size_push]; omega) _).grown hgrow (by show _ ≤ ((w'.heap.push _).push _).size; rw [Array.size_push, Array.size_push]; omega) (by intro k hk; cases hk)
      go_wp2
      go_ret2
      refine ⟨_, rfl, ?_, hB2⟩
      have h5 := esc_t _ he
      simp only [hbytes, h5]
      exact ownsRow_le (show w.heap.size ≤ w'.heap.size + 1 + 1 by omega) hown
    · intro v' w2 hown hgrow
      have he : ((x0.fEscape.toNat : Int) == 0) = false := by assumption
      rw [if_pos trivial] at hr
      cases hr
      have hW : Below w.heap.size w w' := ((Below.refl _ w).alloc (Nat.le_refl _) _).trans (hB.mono (by rw [hsz]; omega))
      have hle := hW.size
      have hB2 : Below w.heap.size w w2 := ((hW.alloc hle _).alloc (by show _ ≤ (w'.heap.push _).size; rw [Array.size_push]; omega) _).grown hgrow (by show _ ≤ ((w'.heap.push _).push _).size; rw [Array.size_push, Array.size_push]; omega) (by intro k hk; cases hk)
      go_wp2
      go_ret2
      refine ⟨_, rfl, ?_, hB2⟩
      have h5 := esc_f _ he
      simp only [hbytes, h5]
      exact ownsRow_le (show w.heap.size ≤ w'.heap.size + 1 + 1 by omega) hown
  · go_enter Tryz.func23, Tryz.ntmps23
    go_wp2_with (go_at_call 37; refine hcon.mono ?_; rintro e w' ⟨v, rfl, hrep, hB⟩; simp only [Rep] at hrep; subst hrep)
    rw [if_neg h0] at hr
    cases hr
    go_ret2
    exact ⟨_, rfl, ⟨rfl, .inl ⟨rfl, rfl⟩⟩, ((Below.refl _ w).alloc (Nat.le_refl _) _).trans (hB.mono (by rw [hsz]; omega))⟩
theorem fspec_wire_Heading (x0 : Tapi_Marks) : ∀ r, m_wire_Heading x0 = some r → FSpec Tryz.prog 23 ([.agg (rTapi_Marks x0)].map .d) (.tup [.own (.sl 5 (List.replicate 1 .sh)) (.slice (List.map rowY r.1)), .d (.int .i64 r.2)]) ([.agg (rTapi_Marks x0)].map .d) := by
  intro r hr
  refine own_spec2 (by kernel_rfl) (by intro r hr; obtain ⟨b, _, rfl⟩ := List.mem_map.1 hr; rfl) (fun w M vs hM hv hg => ?_)
  refine (heading_calls x0 r hr w M vs hM hv hg).mono ?_
  rintro ev w' ⟨v, rfl, ho, hB⟩
  refine ⟨v, _, rfl, by rw [List.length_map]; exact ho, ?_, ?_, hB⟩
  · clear ho hr
    induction r.1 with
    | nil => simp [RepL]
    | cons b l ih => simp only [List.map_cons, List.flatten_cons, rowY, List.cons_append, List.nil_append, RepL, Rep]; exact ⟨_, _, rfl, rfl, ih⟩
  · intro u hu
    obtain ⟨b, _, rfl⟩ := List.mem_map.1 hu
    rfl
theorem spec_wire_Heading (x0 : Tapi_Marks) : ∀ r, m_wire_Heading x0 = some r → PureSpec Tryz.prog 23 [.agg (rTapi_Marks x0)] (.tup [.slice (List.map rowY r.1), .int .i64 r.2]) := fun r hr => (fspec_wire_Heading x0 r hr).pure rfl
end Go.Proofs.YthcfbglbjipdaaaGreatDoor

/-
  DERIVED: THE SHELF's CONTRACTS AT THIS DUMP, IN PLAIN WORDS (tools/lay-plain.mjs out of 'YthcfbglbjipdaaaGreatDoorShelfI.lean', which tools/lay-shelf.mjs wrote): THE SAME DECLARATIONS UNDER THE SAME NAMES: 'import', 'namespace', 'open', 'def', 'theorem' AND NOTHING ELSE: no command of the shelf's: FOR A HAND-IN. Each laying: the table of numbers ('.._ren') and one theorem, a field a fact of the dump's own or the kernel's comparison; each contract: ONE APPLICATION.
-/
namespace Go.Proofs
open Go.Shelf
def Tryz.lays171_ren : Go.Shelf.Ren := ⟨fun | 171 => 18 | 243 => 34 | 246 => 52 | 283 => 70 | 284 => 71 | 285 => 72 | 286 => 73 | 129 => 90 | 317 => 89 | 318 => 91 | 319 => 92 | 320 => 93 | 337 => 102 | 338 => 103 | n => n, fun | 3 => 3 | 9 => 9 | 2 => 2 | 4 => 4 | 171 => 105 | 0 => 0 | 53 => 106 | 37 => 54 | 5 => 5 | 173 => 109 | 212 => 123 | 51 => 124 | 20 => 20 | 213 => 125 | 46 => 126 | 232 => 137 | 233 => 138 | n => n, fun | 17 => 0 | 18 => 4 | 19 => 5 | n => n⟩
theorem Tryz.lays171 : Go.Proofs.LaysM.n171 Tryz.prog Tryz.lays171_ren := {
  mixed := by kernel_rfl
  f129 := Tryz.func90.trans (congrArg some (by kernel_rfl))
  f171 := Tryz.func18.trans (congrArg some (by kernel_rfl))
  f243 := Tryz.func34.trans (congrArg some (by kernel_rfl))
  f246 := Tryz.func52.trans (congrArg some (by kernel_rfl))
  f283 := Tryz.func70.trans (congrArg some (by kernel_rfl))
  f284 := Tryz.func71.trans (congrArg some (by kernel_rfl))
  f285 := Tryz.func72.trans (congrArg some (by kernel_rfl))
  f286 := Tryz.func73.trans (congrArg some (by kernel_rfl))
  f317 := Tryz.func89.trans (congrArg some (by kernel_rfl))
  f318 := Tryz.func91.trans (congrArg some (by kernel_rfl))
  f319 := Tryz.func92.trans (congrArg some (by kernel_rfl))
  f320 := Tryz.func93.trans (congrArg some (by kernel_rfl))
  f337 := Tryz.func102.trans (congrArg some (by kernel_rfl))
  f338 := Tryz.func103.trans (congrArg some (by kernel_rfl))
  t0 := Tryz.underlying0
  a0 := Tryz.isAgg0
  z0 := Tryz.sizeOf0
  v0 := Tryz.zeroValue0
  t2 := Tryz.underlying2
  a2 := Tryz.isAgg2
  z2 := Tryz.sizeOf2
  v2 := Tryz.zeroValue2
  t3 := Tryz.underlying3
  a3 := Tryz.isAgg3
  z3 := Tryz.sizeOf3
  v3 := Tryz.zeroValue3
  t4 := Tryz.underlying4
  a4 := Tryz.isAgg4
  z4 := Tryz.sizeOf4
  v4 := Tryz.zeroValue4
  t5 := Tryz.underlying5
  a5 := Tryz.isAgg5
  z5 := Tryz.sizeOf5
  v5 := Tryz.zeroValue5
  t9 := Tryz.underlying9
  a9 := Tryz.isAgg9
  z9 := Tryz.sizeOf9
  v9 := Tryz.zeroValue9
  t20 := Tryz.underlying20
  a20 := Tryz.isAgg20
  z20 := Tryz.sizeOf20
  v20 := Tryz.zeroValue20
  t37 := Tryz.underlying54
  a37 := Tryz.isAgg54
  z37 := Tryz.sizeOf54
  v37 := Tryz.zeroValue54
  t46 := Tryz.underlying126
  a46 := Tryz.isAgg126
  z46 := Tryz.sizeOf126
  v46 := Tryz.zeroValue126
  t51 := Tryz.underlying124
  a51 := Tryz.isAgg124
  z51 := Tryz.sizeOf124
  v51 := Tryz.zeroValue124
  t53 := Tryz.underlying106
  a53 := Tryz.isAgg106
  z53 := Tryz.sizeOf106
  v53 := Tryz.zeroValue106
  t171 := Tryz.underlying105
  a171 := Tryz.isAgg105
  z171 := Tryz.sizeOf105
  v171 := Tryz.zeroValue105
  t173 := Tryz.underlying109
  a173 := Tryz.isAgg109
  z173 := Tryz.sizeOf109
  v173 := Tryz.zeroValue109
  t212 := Tryz.underlying123
  a212 := Tryz.isAgg123
  z212 := Tryz.sizeOf123
  v212 := Tryz.zeroValue123
  t213 := Tryz.underlying125
  a213 := Tryz.isAgg125
  z213 := Tryz.sizeOf125
  t232 := Tryz.underlying137
  a232 := Tryz.isAgg137
  z232 := Tryz.sizeOf137
  v232 := Tryz.zeroValue137
  t233 := Tryz.underlying138
  a233 := Tryz.isAgg138
  z233 := Tryz.sizeOf138
  v233 := Tryz.zeroValue138
  g17 := by kernel_rfl
  g18 := by kernel_rfl
  g19 := by kernel_rfl
  i0 := by kernel_rfl
  i2 := by kernel_rfl
  i3 := by kernel_rfl
  i4 := by kernel_rfl
  i5 := by kernel_rfl
  i9 := by kernel_rfl
  i20 := by kernel_rfl
  i37 := by kernel_rfl
  i46 := by kernel_rfl
  i51 := by kernel_rfl
  i53 := by kernel_rfl
  i171 := by kernel_rfl
  i173 := by kernel_rfl
  i212 := by kernel_rfl
  i232 := by kernel_rfl
  i233 := by kernel_rfl
  m17 := by kernel_rfl
  m18 := by kernel_rfl
  m19 := by kernel_rfl }
end Go.Proofs

/-
  strconv.Itoa, over the table of the powers of ten.
-/
namespace Go.Proofs.YthcfbglbjipdaaaGreatDoor
set_option linter.unusedSimpArgs false
set_option linter.unusedVariables false
open Go.RowKit Go.Shelf

theorem below_grow (w : World) (k : Nat) (os : Array Obj) : Below w.heap.size w (Go.Sort.grow (w.drewN k) os) := by
  refine ⟨rfl, rfl, rfl, ?_, fun i hi => ?_⟩
  · show w.heap.size ≤ (w.heap ++ os).size
    rw [Array.size_append]; omega
  · show (w.heap ++ os)[i]? = w.heap[i]?
    rw [Array.getElem?_append_left hi]
theorem tab_pow10 {w : World} (h : Good w) : Lib.TabIs Tryz.prog w "internal/strconv.uint64pow10" .u64 Lib.pow10Tab := by
  obtain ⟨u, f, hc⟩ := h (0, .u64, Lib.pow10Tab) (by unfold tabs; exact List.mem_of_getElem? (i := 0) rfl)
  unfold Lib.TabIs World.var?
  rw [show Tryz.prog.globalNamed "internal/strconv.uint64pow10" = some 0 by kernel_rfl]
  simp only [Option.bind_some]
  rw [hc]
def m_strconv_Itoa (n : Int) : Option (List UInt8) := if -9223372036854775808 ≤ n ∧ n ≤ 9223372036854775807 then some (Lib.itoa n) else none
theorem spec_strconv_Itoa (n : Int) : ∀ r, m_strconv_Itoa n = some r → PureSpec Tryz.prog 18 [.int .i64 n] (.str r) := by
  intro r hr
  unfold m_strconv_Itoa at hr
  split at hr
  · rename_i h
    cases hr
    refine ⟨by kernel_rfl, fun w M vs hM hv hgood => ?_⟩
    simp only [RepL, Rep] at hv
    obtain ⟨u, us, rfl, rfl, rfl⟩ := hv
    refine Calls.mono (Any.strconv_Itoa Tryz.lays171 n h.1 h.2 w (tab_pow10 hgood)) ?_
    rintro e w' ⟨rfl, k, os, rfl⟩
    exact ⟨_, rfl, by simp [Rep], below_grow w k os⟩
  · cases hr
end Go.Proofs.YthcfbglbjipdaaaGreatDoor

/-
  slices.Clone at any element type, as a contract over data values: what comes back is owned.
-/
namespace Go.Proofs.YthcfbglbjipdaaaGreatDoor
set_option linter.unusedSimpArgs false
set_option linter.unusedVariables false
open Go.RowKit Go.Shelf Go.Lib
variable {P : Program} {ρ : Ren}

set_option maxHeartbeats 2000000 in
set_option maxRecDepth 100000 in
/-- A slice of length 0 that is not nil, whatever its address. -/
theorem clone_zero (L : SlLaysE0.n41 P ρ) (i0 : TypeInfo) (z : Value) (size bytes : Nat) (hi : P.info? (ρ.t 23) = some i0) (hz0 : i0.zero = some z) (hz1 : i0.size = size) (hz2 : i0.bytes = bytes) (hzs : z.cells.size = size) (hsz : 0 < size)
    (z23 : ∀ w, (Go.sizeOf (ρ.t 23)).run P w = .ok size w) (p : Addr) (c : Nat) (w : World) :
    Calls P (ρ.f 41) #[.slice (some p) 0 c] w fun e w' => ∃ v', e = .returned v' ∧ w'.ownsRow w.heap.size (ρ.t 23) size v' 0 [] ∧ Below w.heap.size w w' := by
  have mixed := L.mixed; have t4 := L.t4; have a4 := L.a4; have z4 := L.z4; have v4 := L.v4; have t22 := L.t22; have a22 := L.a22; have z22 := L.z22; have v22 := L.v22
  have q22 : ∀ (w : World) (a : Option Addr) (n c n' c' : Nat), (binOp .eql (ρ.t 22) (.slice a n c) (.slice none n' c')).run P w = .ok (.bool a.isNone) w := fun w a n c n' c' => Lib.run_eql_slice_nil w _ _ a n c n' c' L.t22
  have u22 : ∀ w, Sem.run P (underlying (ρ.t 22)) w = .ok (TypeDesc.slice (ρ.t 23)) w := run_underlying t22
  obtain ⟨_, _, FG⟩ := L.f41
  go_enter FG, SlBodyN.n41_ntmps ρ
  go_wp2_with (at_builtin; refine wpList_append_own _ rfl _ _ (ρ.t 22) rfl w.heap.size (ρ.t 23) i0 z size bytes t22 hi hz0 hz1 hz2 hzs hsz _ _ _ rfl (World.ownsRow_made w #[] 0 (Nat.le_refl _) (Nat.zero_le _) (by simp)) p 0 c [] rfl ?qc1 ?qc2 ?qc3 ?qc4 ?qc5 ?qc6 ?_)
  case qc1 => simp
  case qc2 => intro j u hj; simp at hj
  case qc3 => simp
  case qc4 => simp
  case qc5 => simp
  case qc6 => simp
  intro v' w1 hown hgrow hnil
  go_wp2
  go_ret
  exact ⟨v', rfl, by simpa using hown, ((Below.refl _ w).alloc (Nat.le_refl _) _).grown hgrow (by simp) (by intro k hk; simp [Value.ownBlock] at hk; omega)⟩

theorem clone_own (L : SlLaysE0.n41 P ρ) (i0 : TypeInfo) (z : Value) (size bytes : Nat) (hi : P.info? (ρ.t 23) = some i0) (hz0 : i0.zero = some z) (hz1 : i0.size = size) (hz2 : i0.bytes = bytes) (hzs : z.cells.size = size) (hsz : 0 < size) (hby : bytes ≤ 1024)
    (z23 : ∀ w, (Go.sizeOf (ρ.t 23)).run P w = .ok size w) (hcall : callable P (ρ.f 41) = true) (rows : List (List DV)) (hall : ∀ r ∈ rows, r.length = size) (hlen : rows.length ≤ 137438953472) : FSpec P (ρ.f 41) (([.slice rows] : List DV).map .d) (.own (.sl (ρ.t 23) (List.replicate size .sh)) (.slice rows)) (([.slice rows] : List DV).map .d) := by
  refine own_spec hcall hall (fun w M vs hM hv => ?_)
  simp only [RepL] at hv
  obtain ⟨u, us, rfl, hu, rfl⟩ := hv
  have hS : RepS w M (fun _ => .pointer none) (.d (.slice rows)) u := by simpa only [RepS] using hu
  obtain ⟨ad, cap, news, hu', k1, k2, k3⟩ := rowsY_rep (sz := size) hS (rows2 := rows.map dR) rfl (by intro r hr; obtain ⟨q, hq, rfl⟩ := List.mem_map.1 hr; simp [dR, hall q hq])
  simp only [List.length_map] at hu'
  subst hu'
  rw [dR_flatten] at k1
  have k1' : RepL w M rows.flatten news := RepSL.toDVs _ _ _ k1 (dR_toDVs _)
  have zero : ∀ (a : Option Addr), rows = [] → Calls P (ρ.f 41) #[.slice a 0 cap] w fun e w' => ∃ v news, e = .returned v ∧ w'.ownsRow w.heap.size (ρ.t 23) size v 0 news ∧ RepL w M ([] : List (List DV)).flatten news ∧ (∀ u ∈ news, u.oneCell' = true) ∧ Below w.heap.size w w' := by
    intro a hr
    subst hr
    cases a with
    | none =>
      refine (AnyE.slices_Clone_nil L 0 cap w).mono ?_
      rintro e w' ⟨rfl, rfl⟩
      exact ⟨_, [], rfl, ⟨by simp, .inl ⟨rfl, rfl⟩⟩, by simp [RepL], by simp, Below.refl _ _⟩
    | some p =>
      refine (clone_zero L i0 z size bytes hi hz0 hz1 hz2 hzs hsz z23 p cap w).mono ?_
      rintro e w' ⟨v', rfl, ho, hB⟩
      exact ⟨v', [], rfl, ho, by simp [RepL], by simp, hB⟩
  rcases k3 with ⟨hr, hn⟩ | ⟨b, o, rfl, hcells⟩
  · have hr' : rows = [] := by simpa using hr
    have := zero ad hr'
    subst hr'
    exact this
  · have hbytes : rows.length * bytes ≤ 140737488355328 := by
      have := Nat.mul_le_mul hlen hby
      omega
    refine (AnyE.slices_Clone L i0 z size bytes hi hz0 hz1 hz2 hzs hsz z23 b o rows.length cap news w (by rw [← flatten_len hall]; exact k1'.len) (by unfold maxLen; omega) hbytes hcells k2).mono ?_
    rintro e w' ⟨v', rfl, ho, _, hB⟩
    exact ⟨v', news, rfl, ho, k1', k2, hB⟩
end Go.Proofs.YthcfbglbjipdaaaGreatDoor

/-
  DERIVED: THE SHELF's CONTRACTS AT THIS DUMP, IN PLAIN WORDS (tools/lay-plain.mjs out of 'YthcfbglbjipdaaaGreatDoorShelfC.lean', which tools/lay-shelf.mjs wrote): THE SAME DECLARATIONS UNDER THE SAME NAMES: 'import', 'namespace', 'open', 'def', 'theorem' AND NOTHING ELSE: no command of the shelf's: FOR A HAND-IN. Each laying: the table of numbers ('.._ren') and one theorem, a field a fact of the dump's own or the kernel's comparison; each contract: ONE APPLICATION.
-/
namespace Go.Proofs
open Go.Shelf
def Tryz.lays41_41_ren : Go.Shelf.Ren := ⟨fun | 41 => 41 | n => n, fun | 22 => 64 | 23 => 80 | 4 => 4 | n => n, fun | n => n⟩
theorem Tryz.lays41_41 : Go.Proofs.SlLaysE0.n41 Tryz.prog Tryz.lays41_41_ren := {
  mixed := by kernel_rfl
  f41 := ⟨Tryz.f41.name, by decide, Tryz.func41.trans (congrArg some (by kernel_rfl))⟩
  t4 := Tryz.underlying4
  a4 := Tryz.isAgg4
  z4 := Tryz.sizeOf4
  v4 := Tryz.zeroValue4
  t22 := Tryz.underlying64
  a22 := Tryz.isAgg64
  z22 := Tryz.sizeOf64
  v22 := Tryz.zeroValue64 }
def Tryz.lays41_42_ren : Go.Shelf.Ren := ⟨fun | 41 => 42 | n => n, fun | 22 => 78 | 23 => 82 | 4 => 4 | n => n, fun | n => n⟩
theorem Tryz.lays41_42 : Go.Proofs.SlLaysE0.n41 Tryz.prog Tryz.lays41_42_ren := {
  mixed := by kernel_rfl
  f41 := ⟨Tryz.f42.name, by decide, Tryz.func42.trans (congrArg some (by kernel_rfl))⟩
  t4 := Tryz.underlying4
  a4 := Tryz.isAgg4
  z4 := Tryz.sizeOf4
  v4 := Tryz.zeroValue4
  t22 := Tryz.underlying78
  a22 := Tryz.isAgg78
  z22 := Tryz.sizeOf78
  v22 := Tryz.zeroValue78 }
def Tryz.lays41_43_ren : Go.Shelf.Ren := ⟨fun | 41 => 43 | n => n, fun | 22 => 82 | 23 => 9 | 4 => 4 | n => n, fun | n => n⟩
theorem Tryz.lays41_43 : Go.Proofs.SlLaysE0.n41 Tryz.prog Tryz.lays41_43_ren := {
  mixed := by kernel_rfl
  f41 := ⟨Tryz.f43.name, by decide, Tryz.func43.trans (congrArg some (by kernel_rfl))⟩
  t4 := Tryz.underlying4
  a4 := Tryz.isAgg4
  z4 := Tryz.sizeOf4
  v4 := Tryz.zeroValue4
  t22 := Tryz.underlying82
  a22 := Tryz.isAgg82
  z22 := Tryz.sizeOf82
  v22 := Tryz.zeroValue82 }
def Tryz.lays41_28_ren : Go.Shelf.Ren := ⟨fun | 41 => 28 | n => n, fun | 22 => 44 | 23 => 66 | 4 => 4 | n => n, fun | n => n⟩
theorem Tryz.lays41_28 : Go.Proofs.SlLaysE0.n41 Tryz.prog Tryz.lays41_28_ren := {
  mixed := by kernel_rfl
  f41 := ⟨Tryz.f28.name, by decide, Tryz.func28.trans (congrArg some (by kernel_rfl))⟩
  t4 := Tryz.underlying4
  a4 := Tryz.isAgg4
  z4 := Tryz.sizeOf4
  v4 := Tryz.zeroValue4
  t22 := Tryz.underlying44
  a22 := Tryz.isAgg44
  z22 := Tryz.sizeOf44
  v22 := Tryz.zeroValue44 }
def Tryz.lays41_22_ren : Go.Shelf.Ren := ⟨fun | 41 => 22 | n => n, fun | 22 => 39 | 23 => 46 | 4 => 4 | n => n, fun | n => n⟩
theorem Tryz.lays41_22 : Go.Proofs.SlLaysE0.n41 Tryz.prog Tryz.lays41_22_ren := {
  mixed := by kernel_rfl
  f41 := ⟨Tryz.f22.name, by decide, Tryz.func22.trans (congrArg some (by kernel_rfl))⟩
  t4 := Tryz.underlying4
  a4 := Tryz.isAgg4
  z4 := Tryz.sizeOf4
  v4 := Tryz.zeroValue4
  t22 := Tryz.underlying39
  a22 := Tryz.isAgg39
  z22 := Tryz.sizeOf39
  v22 := Tryz.zeroValue39 }
end Go.Proofs

/-
  slices.Clone at some types.
-/
namespace Go.Proofs.YthcfbglbjipdaaaGreatDoor
open Go.RowKit Go.Shelf Go.Lib
def m_slices_Clone_interchange_api_Element_interchange_api_Element (l : List Tapi_Element) : Option (List Tapi_Element) := if l.length ≤ 137438953472 then some l else none
theorem spec_slices_Clone_interchange_api_Element_interchange_api_Element (l : List Tapi_Element) : ∀ r, m_slices_Clone_interchange_api_Element_interchange_api_Element l = some r → FSpec Tryz.prog 41 (([.slice (List.map rTapi_Element l)] : List DV).map .d) (.own (.sl 80 (List.replicate 1 .sh)) (.slice (List.map rTapi_Element r))) (([.slice (List.map rTapi_Element l)] : List DV).map .d) := by
  intro r hr
  unfold m_slices_Clone_interchange_api_Element_interchange_api_Element at hr
  split at hr
  · rename_i hlen
    cases hr
    exact clone_own Tryz.lays41_41 (i0 := (Tryz.prog.info? 80).get (by kernel_rfl)) (z := ((Tryz.prog.info? 80).get (by kernel_rfl)).zero.get (by kernel_rfl)) (size := 1) (bytes := ((Tryz.prog.info? 80).get (by kernel_rfl)).bytes) (Option.some_get _).symm (Option.some_get _).symm (by kernel_rfl) rfl (by kernel_rfl) (by decide) (of_decide_eq_true (by kernel_rfl)) Tryz.sizeOf80 (by kernel_rfl) (List.map rTapi_Element l) (by intro r hr; obtain ⟨b, _, rfl⟩ := List.mem_map.1 hr; rfl) (by simpa using hlen)
  · cases hr
def m_slices_Clone_LLstring_Lstring (l : List (List (List UInt8))) : Option (List (List (List UInt8))) := if l.length ≤ 137438953472 then some l else none
theorem spec_slices_Clone_LLstring_Lstring (l : List (List (List UInt8))) : ∀ r, m_slices_Clone_LLstring_Lstring l = some r → FSpec Tryz.prog 42 (([.slice (List.map (rowL rowS) l)] : List DV).map .d) (.own (.sl 82 (List.replicate 1 .sh)) (.slice (List.map (rowL rowS) r))) (([.slice (List.map (rowL rowS) l)] : List DV).map .d) := by
  intro r hr
  unfold m_slices_Clone_LLstring_Lstring at hr
  split at hr
  · rename_i hlen
    cases hr
    exact clone_own Tryz.lays41_42 (i0 := (Tryz.prog.info? 82).get (by kernel_rfl)) (z := ((Tryz.prog.info? 82).get (by kernel_rfl)).zero.get (by kernel_rfl)) (size := 1) (bytes := ((Tryz.prog.info? 82).get (by kernel_rfl)).bytes) (Option.some_get _).symm (Option.some_get _).symm (by kernel_rfl) rfl (by kernel_rfl) (by decide) (of_decide_eq_true (by kernel_rfl)) Tryz.sizeOf82 (by kernel_rfl) (List.map (rowL rowS) l) (by intro r hr; obtain ⟨b, _, rfl⟩ := List.mem_map.1 hr; rfl) (by simpa using hlen)
  · cases hr
def m_slices_Clone_Lstring_string (l : List (List UInt8)) : Option (List (List UInt8)) := if l.length ≤ 137438953472 then some l else none
theorem spec_slices_Clone_Lstring_string (l : List (List UInt8)) : ∀ r, m_slices_Clone_Lstring_string l = some r → FSpec Tryz.prog 43 (([.slice (List.map rowS l)] : List DV).map .d) (.own (.sl 9 (List.replicate 1 .sh)) (.slice (List.map rowS r))) (([.slice (List.map rowS l)] : List DV).map .d) := by
  intro r hr
  unfold m_slices_Clone_Lstring_string at hr
  split at hr
  · rename_i hlen
    cases hr
    exact clone_own Tryz.lays41_43 (i0 := (Tryz.prog.info? 9).get (by kernel_rfl)) (z := ((Tryz.prog.info? 9).get (by kernel_rfl)).zero.get (by kernel_rfl)) (size := 1) (bytes := ((Tryz.prog.info? 9).get (by kernel_rfl)).bytes) (Option.some_get _).symm (Option.some_get _).symm (by kernel_rfl) rfl (by kernel_rfl) (by decide) (of_decide_eq_true (by kernel_rfl)) Tryz.sizeOf9 (by kernel_rfl) (List.map rowS l) (by intro r hr; obtain ⟨b, _, rfl⟩ := List.mem_map.1 hr; rfl) (by simpa using hlen)
  · cases hr
def m_slices_Clone_interchange_api_Segment_interchange_api_Segment (l : List Tapi_Segment) : Option (List Tapi_Segment) := if l.length ≤ 137438953472 then some l else none
theorem spec_slices_Clone_interchange_api_Segment_interchange_api_Segment (l : List Tapi_Segment) : ∀ r, m_slices_Clone_interchange_api_Segment_interchange_api_Segment l = some r → FSpec Tryz.prog 28 (([.slice (List.map rTapi_Segment l)] : List DV).map .d) (.own (.sl 66 (List.replicate 2 .sh)) (.slice (List.map rTapi_Segment r))) (([.slice (List.map rTapi_Segment l)] : List DV).map .d) := by
  intro r hr
  unfold m_slices_Clone_interchange_api_Segment_interchange_api_Segment at hr
  split at hr
  · rename_i hlen
    cases hr
    exact clone_own Tryz.lays41_28 (i0 := (Tryz.prog.info? 66).get (by kernel_rfl)) (z := ((Tryz.prog.info? 66).get (by kernel_rfl)).zero.get (by kernel_rfl)) (size := 2) (bytes := ((Tryz.prog.info? 66).get (by kernel_rfl)).bytes) (Option.some_get _).symm (Option.some_get _).symm (by kernel_rfl) rfl (by kernel_rfl) (by decide) (of_decide_eq_true (by kernel_rfl)) Tryz.sizeOf66 (by kernel_rfl) (List.map rTapi_Segment l) (by intro r hr; obtain ⟨b, _, rfl⟩ := List.mem_map.1 hr; rfl) (by simpa using hlen)
  · cases hr
end Go.Proofs.YthcfbglbjipdaaaGreatDoor

/-
  DERIVED: THE SHELF's CONTRACTS AT THIS DUMP, IN PLAIN WORDS (tools/lay-plain.mjs out of 'YthcfbglbjipdaaaGreatDoorShelfW.lean', which tools/lay-shelf.mjs wrote): THE SAME DECLARATIONS UNDER THE SAME NAMES: 'import', 'namespace', 'open', 'def', 'theorem' AND NOTHING ELSE: no command of the shelf's: FOR A HAND-IN. Each laying: the table of numbers ('.._ren') and one theorem, a field a fact of the dump's own or the kernel's comparison; each contract: ONE APPLICATION.
-/
namespace Go.Proofs
open Go.Shelf
def Tryz.lays103_ren : Go.Shelf.Ren := ⟨fun | 103 => 36 | 210 => 54 | 206 => 75 | n => n, fun | 9 => 9 | 4 => 4 | 24 => 71 | 3 => 3 | n => n, fun | n => n⟩
theorem Tryz.lays103 : Go.Proofs.Lays.n103 Tryz.prog Tryz.lays103_ren := {
  mixed := by kernel_rfl
  f103 := Tryz.func36.trans (congrArg some (by kernel_rfl))
  f206 := Tryz.func75.trans (congrArg some (by kernel_rfl))
  f210 := Tryz.func54.trans (congrArg some (by kernel_rfl))
  t3 := Tryz.underlying3
  a3 := Tryz.isAgg3
  z3 := Tryz.sizeOf3
  v3 := Tryz.zeroValue3
  t4 := Tryz.underlying4
  a4 := Tryz.isAgg4
  z4 := Tryz.sizeOf4
  v4 := Tryz.zeroValue4
  t9 := Tryz.underlying9
  a9 := Tryz.isAgg9
  z9 := Tryz.sizeOf9
  v9 := Tryz.zeroValue9
  t24 := Tryz.underlying71
  a24 := Tryz.isAgg71
  z24 := Tryz.sizeOf71
  v24 := Tryz.zeroValue71 }
end Go.Proofs

/-
  strings.CutPrefix.
-/
namespace Go.Proofs.YthcfbglbjipdaaaGreatDoor
set_option linter.unusedSimpArgs false
set_option linter.unusedVariables false
open Go.RowKit Go.Shelf

def m_strings_CutPrefix (s p : List UInt8) : Option (List UInt8 × Bool) := some (Lib.trimPrefix s p, Lib.hasPrefix s p)
theorem spec_strings_CutPrefix (s p : List UInt8) : ∀ r, m_strings_CutPrefix s p = some r → PureSpec Tryz.prog 36 [.str s, .str p] (.tup [.str r.1, .bool r.2]) := by
  intro r hr
  unfold m_strings_CutPrefix at hr
  cases hr
  refine ⟨by kernel_rfl, fun w M vs hM hv hgood => ?_⟩
  simp only [RepL, Rep] at hv
  obtain ⟨u, us, rfl, rfl, u', us', rfl, rfl, rfl⟩ := hv
  refine Calls.mono (Any.strings_CutPrefix Tryz.lays103 ⟨s.toArray⟩ ⟨p.toArray⟩ w) ?_
  rintro e w' ⟨rfl, rfl⟩
  refine ⟨_, rfl, ?_, Below.refl _ _⟩
  unfold Rep
  refine ⟨_, rfl, ?_⟩
  simp [RepL, Rep]
end Go.Proofs.YthcfbglbjipdaaaGreatDoor

/-
  The bodies of some functions in the engine's form, printed by a program of mine (wip/tool/sc.py) out of the translation; each is held against the translation by the kernel.
-/
namespace Go.Proofs.YthcfbglbjipdaaaGreatDoor

def sc_wire_Clone_L1 : SC :=
  (.seq (.reg [.r 31 (.bin .lss (.t 30) (.t 29))])
  (.seq (.cond (.t 31)
    .skip
    (.exit 2))
  (.seq (.block 3 (.seq (.reg [.r 32 (.mv (.t 30)),
       .r 33 (.idx 1 (.t 28) (.t 30)),
       .o 34 (.ld1 (.t 33)),
       .r 5 (.mv (.t 32)),
       .r 6 (.mv (.t 34))])
    (.regE [.r 35 (.fld 1 (.t 1)),
       .r 36 (.ld1 (.t 35)),
       .r 37 (.mv (.t 3)),
       .r 38 (.idx 1 (.t 36) (.t 37)),
       .r 39 (.fld 0 (.t 38)),
       .r 40 (.ld1 (.t 39)),
       .r 41 (.mv (.t 5)),
       .r 42 (.mv (.t 6)),
       .q 43 (.f 43) [.t 42] [(0, 35, .fld 1 (.t 1)), (1, 36, .ld1 (.t 35)), (2, 37, .mv (.t 3)), (3, 38, .idx 1 (.t 36) (.t 37)), (4, 39, .fld 0 (.t 38)), (5, 40, .ld1 (.t 39)), (6, 41, .mv (.t 5))],
       .r 44 (.idx 1 (.t 40) (.t 41)),
       .x 0 (.st 1 (.t 44) (.t 43)) []])))
  (.reg [.r 45 (.bin .add (.t 30) (.c (.d (.int .i64 1)))),
     .r 30 (.mv (.t 45))]))))
def sc_wire_Clone_B1 : SC := .block 2 (.loop sc_wire_Clone_L1)
def sc_wire_Clone_L2 : SC :=
  (.seq (.reg [.r 15 (.bin .lss (.t 14) (.t 13))])
  (.seq (.cond (.t 15)
    .skip
    (.exit 0))
  (.seq (.block 1 (.seq (.reg [.r 16 (.mv (.t 14)),
       .r 17 (.idx 1 (.t 12) (.t 14)),
       .o 18 (.ldA 1 (.t 17)),
       .w 4 (.boxM (.c (.agg [.nils]))),
       .r 3 (.mv (.t 16)),
       .w 0 (.st 1 (.t 4) (.t 18))])
    (.seq (.regE [.r 19 (.fld 1 (.t 1)),
       .r 20 (.ld1 (.t 19)),
       .r 21 (.mv (.t 3)),
       .r 22 (.fld 0 (.t 4)),
       .r 23 (.ld1 (.t 22)),
       .q 24 (.f 42) [.t 23] [(0, 19, .fld 1 (.t 1)), (1, 20, .ld1 (.t 19)), (2, 21, .mv (.t 3))],
       .r 25 (.idx 1 (.t 20) (.t 21)),
       .r 26 (.fld 0 (.t 25)),
       .x 0 (.st 1 (.t 26) (.t 24)) []])
    (.seq (.reg [.r 27 (.fld 0 (.t 4)),
       .o 28 (.ld1 (.t 27)),
       .r 29 (.len (.t 28)),
       .r 30 (.mv (.c (.d (.int .i64 0))))])
    sc_wire_Clone_B1))))
  (.reg [.r 46 (.bin .add (.t 14) (.c (.d (.int .i64 1)))),
     .r 14 (.mv (.t 46))]))))
def sc_wire_Clone_B2 : SC := .block 0 (.loop sc_wire_Clone_L2)
/-- interchange/wire.Clone -/
def sc_wire_Clone : SC :=
  (.seq (.reg [.w 1 (.boxM (.t 0)),
     .w 2 (.boxM (.c (.agg [.d (.str []), .nils])))])
  (.seq (.reg [.r 7 (.fld 1 (.t 1)),
     .o 8 (.ld1 (.t 7)),
     .p (some 9) (.f 41) [.t 8],
     .r 10 (.fld 1 (.t 1)),
     .w 0 (.st 1 (.t 10) (.t 9))])
  (.seq (.seq (.reg [.r 11 (.fld 1 (.t 1)),
     .o 12 (.ld1 (.t 11)),
     .r 13 (.len (.t 12)),
     .r 14 (.mv (.c (.d (.int .i64 0))))])
  sc_wire_Clone_B2)
  (.seq (.reg [.o 47 (.ldA 2 (.t 1)),
     .w 0 (.st 2 (.t 2) (.t 47))])
  .ret))))
theorem fit_wire_Clone : fits Tryz.prog 29 Tryz.f29 sc_wire_Clone [.cell 2 2] 1 = true := by kernel_rfl

end Go.Proofs.YthcfbglbjipdaaaGreatDoor

/-
  wire.Clone: a copy of a segment, all of which is owned.
-/
namespace Go.Proofs.YthcfbglbjipdaaaGreatDoor
set_option linter.unusedSimpArgs false
set_option linter.unusedVariables false
open Go.RowKit

/-- The masks of a segment that owns all of its slices. -/
def msR : List Mask := [.sl 9 [.sh]]
def msE : List Mask := [.sl 82 msR]
def msS : List Mask := [.sh, .sl 80 msE]
def cloneOk (x : Tapi_Segment) : Prop := x.fElements.length ≤ 137438953472 ∧ ∀ e ∈ x.fElements, e.fRepeats.length ≤ 137438953472 ∧ ∀ p ∈ e.fRepeats, p.length ≤ 137438953472
instance (x : Tapi_Segment) : Decidable (cloneOk x) := by unfold cloneOk; infer_instance
def m_wire_Clone (x : Tapi_Segment) : Option Tapi_Segment := if cloneOk x then some x else none

theorem ownR_E0 (y : Tapi_Element) : ownR [.sh] (rTapi_Element y) = [.d (.slice (List.map (rowL rowS) y.fRepeats))] := rfl
theorem ownR_E (y : Tapi_Element) : ownR msE (rTapi_Element y) = [.own (.sl 82 msR) (.slice (List.map (rowL rowS) y.fRepeats))] := rfl
theorem ownR_R0 (y : List (List UInt8)) : ownR [.sh] (rowL rowS y) = [.d (.slice (List.map rowS y))] := rfl
theorem ownR_R (y : List (List UInt8)) : ownR msR (rowL rowS y) = [.own (.sl 9 [.sh]) (.slice (List.map rowS y))] := rfl

set_option maxRecDepth 100000
set_option maxHeartbeats 4000000

theorem own_wire_Clone (x : Tapi_Segment) (hx : cloneOk x) : FSpec Tryz.prog 29 (([.agg (rTapi_Segment x)] : List DV).map .d) (.agg (ownR msS (rTapi_Segment x))) (([.agg (rTapi_Segment x)] : List DV).map .d) := by
  obtain ⟨tag, els⟩ := x
  obtain ⟨hx1, hx2⟩ := hx
  dsimp only at hx1 hx2
  refine fspec_walkD (N := 48) (k := 1) Tryz.func29 fit_wire_Clone (by kernel_rfl) rfl rfl ?_
  unfold sc_wire_Clone
  repeat' (first | ((with_reducible apply O_pD); (focus (simp only [push_cast, seval]; rfl)); (focus exact spec_slices_Clone_interchange_api_Element_interchange_api_Element els els (by unfold m_slices_Clone_interchange_api_Element_interchange_api_Element; rw [if_pos hx1])); (focus rfl); (focus (intro _; rfl))) | with_reducible refine W_seq ?_ | with_reducible refine W_reg ?_ | with_reducible refine W_regD ?_ | with_reducible refine W_regE ?_ | with_reducible refine W_regP ?_ | with_reducible refine W_block ?_ | with_reducible refine W_skip ?_ | with_reducible refine W_ret ?_ | with_reducible refine W_exit ?_ | with_reducible refine O_nil ?_ | with_reducible refine K_seq ?_ | with_reducible refine K_seqE ?_ | with_reducible refine K_seqR ?_ | with_reducible refine K_block ?_ | with_reducible refine K_blockR ?_ | with_reducible refine K_blockE ?_ | with_reducible refine K_forE ?_ | with_reducible refine K_forR ?_ | with_reducible refine K_rndE ?_ | with_reducible refine K_rndR ?_ | with_reducible refine O_o2r ?_ | ((with_reducible apply K_blockN); decide) | ((with_reducible apply O_r); (focus (simp only [push_cast, seval]; rfl)); (focus (first | exact trivial | omega))) | ((with_reducible apply O_w); (focus (simp only [push_cast, seval]; rfl)); (focus (first | exact trivial | omega))) | ((with_reducible apply O_x); (focus (simp only [push_cast, seval]; rfl)); (focus (first | exact trivial | omega)); (focus exact Rer_nil)))
  · unfold sc_wire_Clone_B2 sc_wire_Clone_L2
    refine W_block ?_
    refine W_for (α := Unit) (b0 := 0) (c := 15) (k := 14) (n := 13) (t := 46) (fun i _ => st [(1, .ref 1 0), (2, .ref 2 0), (12, .vec 9), (13, .d (.int .i64 (els.length : Int))), (14, .d (.int .i64 (i : Int))), (48, .d (.agg (rTapi_Segment ⟨tag, els⟩)))]
      [(1, .box [.d (.str tag), .vec 9]), (2, .box [.d (.str []), .nils]), (9, .vec 80 1 (mixO msE [.sh] rTapi_Element els i))]) (fun _ _ => True) els.length () (by omega) (fun _ _ => rfl) (fun _ _ => rfl) ?h0 trivial ?body ?done
    case h0 => exact imp_st (by simp only [keepS, push_cast, seval, and_self]) (by simp only [keepH, push_cast, seval, mixO_zero, and_self])
    case body =>
      intro i _ hi _
      obtain ⟨y, hy⟩ : ∃ y, els[i]? = some y := ⟨els[i], List.getElem?_eq_getElem hi⟩
      have hmem : y ∈ els := List.mem_of_getElem? hy
      obtain ⟨hy1, hy2⟩ := hx2 y hmem
      have hpl : (vrowO msE rTapi_Element (els.take i)).length = i := by rw [vrowO_length]; simp; omega
      have e0 : mixO msE [.sh] rTapi_Element els i = zrow (vrowO msE rTapi_Element (els.take i)) [.d (.slice (List.map (rowL rowS) y.fRepeats))] (vrowO [.sh] rTapi_Element (els.drop (i + 1))) := by
        rw [mixO_zrow hy, ownR_E0]
      dsimp only
      rw [e0]
      repeat' (first | ((with_reducible apply O_idxK); (focus (simp only [push_cast, seval]; rfl)); (focus (simp only [push_cast, seval]; rfl)); (focus (simp only [push_cast, seval]; rfl)); (focus exact hpl); (focus rfl)) | ((with_reducible apply O_ldAK); (focus (simp only [push_cast, seval]; rfl)); (focus (simp only [push_cast, seval]; rfl)); (focus exact hpl); (focus (simp only [push_cast, seval]; rfl)); (focus rfl); (focus simp)) | ((with_reducible apply O_qD); (focus (simp only [push_cast, seval]; rfl)); (focus exact spec_slices_Clone_LLstring_Lstring y.fRepeats y.fRepeats (by unfold m_slices_Clone_LLstring_Lstring; rw [if_pos hy1])); (focus rfl); (focus (intro _; rfl)); (focus ((repeat' (first | exact Rer_nil | ((with_reducible apply Rer_cons); (focus (simp only [push_cast, seval]; rfl)); (focus exact trivial); (focus (simp only [push_cast, seval]))))); done))) | ((with_reducible apply O_stKx); (focus (simp only [push_cast, seval]; rfl)); (focus (simp only [push_cast, seval]; rfl)); (focus (simp only [push_cast, seval]; rfl)); (focus exact hpl); (focus simp); (focus (simp only [push_cast, seval]; rfl)); (focus exact Rer_nil)) | with_reducible refine W_seq ?_ | with_reducible refine W_reg ?_ | with_reducible refine W_regD ?_ | with_reducible refine W_regE ?_ | with_reducible refine W_regP ?_ | with_reducible refine W_block ?_ | with_reducible refine W_skip ?_ | with_reducible refine W_ret ?_ | with_reducible refine W_exit ?_ | with_reducible refine O_nil ?_ | with_reducible refine K_seq ?_ | with_reducible refine K_seqE ?_ | with_reducible refine K_seqR ?_ | with_reducible refine K_block ?_ | with_reducible refine K_blockR ?_ | with_reducible refine K_blockE ?_ | with_reducible refine K_forE ?_ | with_reducible refine K_forR ?_ | with_reducible refine K_rndE ?_ | with_reducible refine K_rndR ?_ | with_reducible refine O_o2r ?_ | ((with_reducible apply K_blockN); decide) | ((with_reducible apply O_r); (focus (simp only [push_cast, seval]; rfl)); (focus (first | exact trivial | omega))) | ((with_reducible apply O_w); (focus (simp only [push_cast, seval]; rfl)); (focus (first | exact trivial | omega))) | ((with_reducible apply O_x); (focus (simp only [push_cast, seval]; rfl)); (focus (first | exact trivial | omega)); (focus exact Rer_nil)))
      · unfold sc_wire_Clone_B1 sc_wire_Clone_L1
        refine W_block ?_
        refine W_for (α := Unit) (b0 := 2) (c := 31) (k := 30) (n := 29) (t := 45) (fun k _ => st [(1, .ref 1 0), (2, .ref 2 0), (3, .d (.int .i64 (i : Int))), (4, .ref 4 0), (12, .vec 9), (13, .d (.int .i64 (els.length : Int))), (14, .d (.int .i64 (i : Int))), (28, .d (.slice (List.map (rowL rowS) y.fRepeats))), (29, .d (.int .i64 (y.fRepeats.length : Int))), (30, .d (.int .i64 (k : Int))), (48, .d (.agg (rTapi_Segment ⟨tag, els⟩)))]
          [(1, .box [.d (.str tag), .vec 9]), (2, .box [.d (.str []), .nils]), (9, .vec 80 1 (zrow (vrowO msE rTapi_Element (els.take i)) [.vec 24] (vrowO [.sh] rTapi_Element (els.drop (i + 1))))), (24, .vec 82 1 (mixO msR [.sh] (rowL rowS) y.fRepeats k))]) (fun _ _ => True) y.fRepeats.length () (by omega) (fun _ _ => rfl) (fun _ _ => rfl) ?g0 trivial ?gbody ?gdone
        case g0 => exact imp_st (by simp only [keepS, push_cast, seval, and_self]) (by simp only [keepH, push_cast, seval, mixO_zero, List.replicate, and_self])
        case gbody =>
          intro k _ hk _
          obtain ⟨z, hz⟩ : ∃ z, y.fRepeats[k]? = some z := ⟨y.fRepeats[k], List.getElem?_eq_getElem hk⟩
          have hz1 := hy2 z (List.mem_of_getElem? hz)
          have hpl2 : (vrowO msR (rowL rowS) (y.fRepeats.take k)).length = k := by rw [vrowO_length]; simp; omega
          have e1 : mixO msR [.sh] (rowL rowS) y.fRepeats k = zrow (vrowO msR (rowL rowS) (y.fRepeats.take k)) [.d (.slice (List.map rowS z))] (vrowO [.sh] (rowL rowS) (y.fRepeats.drop (k + 1))) := by
            rw [mixO_zrow hz, ownR_R0]
          have e2 : mixO msR [.sh] (rowL rowS) y.fRepeats (k + 1) = zrow (vrowO msR (rowL rowS) (y.fRepeats.take k)) [.own (.sl 9 [.sh]) (.slice (List.map rowS z))] (vrowO [.sh] (rowL rowS) (y.fRepeats.drop (k + 1))) := by
            rw [← zrow_mixO hz, ownR_R]
          dsimp only
          rw [e1]
          repeat' (first | ((with_reducible apply O_idxK); (focus (simp only [push_cast, seval]; rfl)); (focus (simp only [push_cast, seval]; rfl)); (focus (simp only [push_cast, seval]; rfl)); (focus (first | exact hpl | exact hpl2)); (focus rfl)) | ((with_reducible apply O_idxD); (focus (simp only [push_cast, seval]; rfl)); (focus (simp only [push_cast, seval]; rfl)); (focus (intro _; rfl)); (focus exact getI_ofN hz)) | ((with_reducible apply O_ldK); (focus (simp only [push_cast, seval]; rfl)); (focus (simp only [push_cast, seval]; rfl)); (focus exact hpl); (focus (simp only [push_cast, seval]; rfl)); (focus rfl)) | ((with_reducible apply O_qD); (focus (simp only [push_cast, seval]; rfl)); (focus exact spec_slices_Clone_Lstring_string z z (by unfold m_slices_Clone_Lstring_string; rw [if_pos hz1])); (focus rfl); (focus (intro _; rfl)); (focus ((repeat' (first | exact Rer_nil | ((with_reducible apply Rer_idxK); (focus (simp only [push_cast, seval]; rfl)); (focus (simp only [push_cast, seval]; rfl)); (focus (simp only [push_cast, seval]; rfl)); (focus exact hpl); (focus rfl); (focus (simp only [push_cast, seval]; (try rfl); done))) | ((with_reducible apply Rer_ldK); (focus (simp only [push_cast, seval]; rfl)); (focus (simp only [push_cast, seval]; rfl)); (focus exact hpl); (focus (simp only [push_cast, seval]; rfl)); (focus rfl); (focus (simp only [push_cast, seval]; (try rfl); done))) | ((with_reducible apply Rer_cons); (focus (simp only [push_cast, seval]; rfl)); (focus exact trivial); (focus (simp only [push_cast, seval]))))); done))) | ((with_reducible apply O_stKx); (focus (simp only [push_cast, seval]; rfl)); (focus (simp only [push_cast, seval]; rfl)); (focus (simp only [push_cast, seval]; rfl)); (focus exact hpl2); (focus simp); (focus (simp only [push_cast, seval]; rfl)); (focus exact Rer_nil)) | with_reducible refine W_seq ?_ | with_reducible refine W_reg ?_ | with_reducible refine W_regD ?_ | with_reducible refine W_regE ?_ | with_reducible refine W_regP ?_ | with_reducible refine W_block ?_ | with_reducible refine W_skip ?_ | with_reducible refine W_ret ?_ | with_reducible refine W_exit ?_ | with_reducible refine O_nil ?_ | with_reducible refine K_seq ?_ | with_reducible refine K_seqE ?_ | with_reducible refine K_seqR ?_ | with_reducible refine K_block ?_ | with_reducible refine K_blockR ?_ | with_reducible refine K_blockE ?_ | with_reducible refine K_forE ?_ | with_reducible refine K_forR ?_ | with_reducible refine K_rndE ?_ | with_reducible refine K_rndR ?_ | with_reducible refine O_o2r ?_ | ((with_reducible apply K_blockN); decide) | ((with_reducible apply O_r); (focus (simp only [push_cast, seval]; rfl)); (focus (first | exact trivial | omega))) | ((with_reducible apply O_w); (focus (simp only [push_cast, seval]; rfl)); (focus (first | exact trivial | omega))) | ((with_reducible apply O_x); (focus (simp only [push_cast, seval]; rfl)); (focus (first | exact trivial | omega)); (focus exact Rer_nil)))
          · apply K_for ()
            (focus (simp only [push_cast, seval]))
            rotate_left
            (focus exact trivial)
            refine Imp.trans (imp_closeZ (id := 24) (cid := 43) (off := 0) (ms' := [.sh]) (row' := rowS) (y := z) (k := k) (by (simp only [push_cast, seval]; (try rfl); done)) (by (simp only [push_cast, seval]; (try rfl); done)) hpl2.symm (by (simp only [push_cast, seval]; (try rfl); done)) r_rflO rfl (fun _ => rfl) (by decide) (by (simp only [push_cast, seval]; (try rfl); done))) ?_
            exact imp_st (by simp only [keepS, push_cast, seval, and_self]) (by simp only [keepH, push_cast, seval, e2, and_self])
        case gdone =>
          intro _ _
          refine K_block ?_
          have e3 : mixO msE [.sh] rTapi_Element els (i + 1) = zrow (vrowO msE rTapi_Element (els.take i)) [.own (.sl 82 msR) (.slice (List.map (rowL rowS) y.fRepeats))] (vrowO [.sh] rTapi_Element (els.drop (i + 1))) := by
            rw [← zrow_mixO hy, ownR_E]
          dsimp only
          rw [mixO_all]
          apply K_for ()
          (focus (simp only [push_cast, seval]))
          rotate_left
          (focus exact trivial)
          refine Imp.trans (imp_closeZ (id := 9) (cid := 24) (off := 0) (ms' := msR) (row' := rowL rowS) (y := y.fRepeats) (k := i) (by (simp only [push_cast, seval]; (try rfl); done)) (by (simp only [push_cast, seval]; (try rfl); done)) hpl.symm (by (simp only [push_cast, seval]; (try rfl); done)) r_rflO rfl (fun _ => rfl) (by decide) (by (simp only [push_cast, seval]; (try rfl); done))) ?_
          exact imp_st (by simp only [keepS, push_cast, seval, and_self]) (by simp only [keepH, push_cast, seval, e3, and_self])
    case done =>
      intro _ _
      dsimp only
      rw [mixO_all]
      repeat' (first | with_reducible refine W_seq ?_ | with_reducible refine W_reg ?_ | with_reducible refine W_regD ?_ | with_reducible refine W_regE ?_ | with_reducible refine W_regP ?_ | with_reducible refine W_block ?_ | with_reducible refine W_skip ?_ | with_reducible refine W_ret ?_ | with_reducible refine W_exit ?_ | with_reducible refine O_nil ?_ | with_reducible refine K_seq ?_ | with_reducible refine K_seqE ?_ | with_reducible refine K_seqR ?_ | with_reducible refine K_block ?_ | with_reducible refine K_blockR ?_ | with_reducible refine K_blockE ?_ | with_reducible refine K_forE ?_ | with_reducible refine K_forR ?_ | with_reducible refine K_rndE ?_ | with_reducible refine K_rndR ?_ | with_reducible refine O_o2r ?_ | ((with_reducible apply K_blockN); decide) | ((with_reducible apply O_r); (focus (simp only [push_cast, seval]; rfl)); (focus (first | exact trivial | omega))) | ((with_reducible apply O_w); (focus (simp only [push_cast, seval]; rfl)); (focus (first | exact trivial | omega))) | ((with_reducible apply O_x); (focus (simp only [push_cast, seval]; rfl)); (focus (first | exact trivial | omega)); (focus exact Rer_nil)))
      · apply K_endO (r0 := (⟨tag, els⟩ : Tapi_Segment)) (r := ⟨tag, els⟩) (row := rTapi_Segment) rfl (Imp.refl _)
        (focus (simp only [push_cast, seval]; rfl))
        (focus (simp only [push_cast, seval]; rfl))
        (focus (simp only [push_cast, seval]; (try rfl); done))
        (focus exact ROkL.data rfl (ROk_vec (l := els) (row := rTapi_Element) (ms := msE) (by (simp only [push_cast, seval]; (try rfl); done)) rfl (fun _ => rfl) (by simp) ROkL.nil))
        (focus rfl)
theorem fspec_wire_Clone (x : Tapi_Segment) : ∀ r, m_wire_Clone x = some r → FSpec Tryz.prog 29 (([.agg (rTapi_Segment x)] : List DV).map .d) (.agg (ownR msS (rTapi_Segment r))) (([.agg (rTapi_Segment x)] : List DV).map .d) := by
  intro r hr
  unfold m_wire_Clone at hr
  split at hr
  · rename_i hx; cases hr; exact own_wire_Clone x hx
  · cases hr
end Go.Proofs.YthcfbglbjipdaaaGreatDoor

/-
  wire.Clone, as a function that only computes.
-/
namespace Go.Proofs.YthcfbglbjipdaaaGreatDoor
set_option linter.unusedSimpArgs false
set_option linter.unusedVariables false
open Go.RowKit

theorem spec_wire_Clone (x : Tapi_Segment) : ∀ r, m_wire_Clone x = some r → PureSpec Tryz.prog 29 [.agg (rTapi_Segment x)] (.agg (rTapi_Segment r)) := fun r hr =>
  ((fspec_wire_Clone x r hr).weak (ms' := [.sh, .sh]) rfl rfl).pure rfl
end Go.Proofs.YthcfbglbjipdaaaGreatDoor

/-
  The bodies of some functions in the engine's form, printed by a program of mine (wip/tool/sc.py) out of the translation; each is held against the translation by the kernel.
-/
namespace Go.Proofs.YthcfbglbjipdaaaGreatDoor

def sc_interchangeref2_copied_L1 : SC :=
  (.seq (.seq (.reg [.r 18 (.mv (.t 6)),
     .r 19 (.fld 1 (.t 1)),
     .o 20 (.ld1 (.t 19)),
     .r 21 (.mv (.t 4)),
     .r 22 (.idx 1 (.t 20) (.t 21)),
     .r 23 (.fld 0 (.t 22)),
     .o 24 (.ld1 (.t 23)),
     .r 25 (.len (.t 24)),
     .r 26 (.bin .lss (.t 18) (.t 25))])
  (.cond (.t 26)
    .skip
    (.exit 2)))
  (.seq (.block 3 (.seq (.reg [.r 7 (.mv (.c (.nils)))])
    (.regE [.r 29 (.fld 0 (.t 5)),
       .r 30 (.ld1 (.t 29)),
       .r 31 (.mv (.t 7)),
       .r 32 (.fld 1 (.t 1)),
       .r 33 (.ld1 (.t 32)),
       .r 34 (.mv (.t 4)),
       .r 35 (.idx 1 (.t 33) (.t 34)),
       .r 36 (.fld 0 (.t 35)),
       .r 37 (.ld1 (.t 36)),
       .r 38 (.mv (.t 6)),
       .r 39 (.idx 1 (.t 37) (.t 38)),
       .r 40 (.ld1 (.t 39)),
       .x 41 (.app 9 1 (.t 31) (.t 40)) [(0, 29, .fld 0 (.t 5)), (1, 30, .ld1 (.t 29))],
       .r 42 (.bslice 1 [.t 41]),
       .x 43 (.app 82 1 (.t 30) (.t 42)) [],
       .r 44 (.fld 0 (.t 5)),
       .x 0 (.st 1 (.t 44) (.t 43)) []])))
  (.reg [.r 27 (.mv (.t 6)),
     .r 28 (.bin .add (.t 27) (.c (.d (.int .i64 1)))),
     .r 6 (.mv (.t 28))])))
def sc_interchangeref2_copied_B1 : SC := .block 2 (.loop sc_interchangeref2_copied_L1)
def sc_interchangeref2_copied_L2 : SC :=
  (.seq (.seq (.reg [.r 11 (.mv (.t 4)),
     .r 12 (.fld 1 (.t 1)),
     .o 13 (.ld1 (.t 12)),
     .r 14 (.len (.t 13)),
     .r 15 (.bin .lss (.t 11) (.t 14))])
  (.cond (.t 15)
    .skip
    (.exit 0)))
  (.seq (.block 1 (.seq (.reg [.w 5 (.boxM (.c (.agg [.nils])))])
    (.seq (.seq (.reg [.r 6 (.mv (.c (.d (.int .i64 0))))])
    sc_interchangeref2_copied_B1)
    (.reg [.r 45 (.fld 1 (.t 3)),
       .o 46 (.ld1 (.t 45)),
       .o 47 (.ldA 1 (.t 5)),
       .r 48 (.bslice 1 [.t 47]),
       .w 49 (.app 80 1 (.t 46) (.t 48)),
       .r 50 (.fld 1 (.t 3)),
       .w 0 (.st 1 (.t 50) (.t 49))]))))
  (.reg [.r 16 (.mv (.t 4)),
     .r 17 (.bin .add (.t 16) (.c (.d (.int .i64 1)))),
     .r 4 (.mv (.t 17))])))
def sc_interchangeref2_copied_B2 : SC := .block 0 (.loop sc_interchangeref2_copied_L2)
/-- interchange/interchangeref2.copied -/
def sc_interchangeref2_copied : SC :=
  (.seq (.reg [.r 1 (.boxI (.t 0)),
     .w 2 (.boxM (.c (.agg [.d (.str []), .nils])))])
  (.seq (.reg [.r 8 (.fld 0 (.t 1)),
     .o 9 (.ld1 (.t 8)),
     .r 10 (.build [.d (.str []), .nils] [(0, 1, .t 9)]),
     .w 3 (.boxM (.c (.agg [.d (.str []), .nils]))),
     .w 0 (.st 2 (.t 3) (.t 10))])
  (.seq (.seq (.reg [.r 4 (.mv (.c (.d (.int .i64 0))))])
  sc_interchangeref2_copied_B2)
  (.seq (.reg [.o 51 (.ldA 2 (.t 3)),
     .w 0 (.st 2 (.t 2) (.t 51))])
  .ret))))
theorem fit_interchangeref2_copied : fits Tryz.prog 33 Tryz.f33 sc_interchangeref2_copied [.cell 2 2] 1 = true := by kernel_rfl

end Go.Proofs.YthcfbglbjipdaaaGreatDoor

/-
  interchangeref2.copied: a copy of a segment, all of which is owned.
-/
namespace Go.Proofs.YthcfbglbjipdaaaGreatDoor
set_option linter.unusedSimpArgs false
set_option linter.unusedVariables false
open Go.RowKit

set_option maxRecDepth 100000
set_option maxHeartbeats 4000000

def m_interchangeref2_copied (x : Tapi_Segment) : Option Tapi_Segment := if cloneOk x then some x else none

theorem own_copied (x : Tapi_Segment) (hx : cloneOk x) : FSpec Tryz.prog 33 (([.agg (rTapi_Segment x)] : List DV).map .d) (.agg (ownR msS (rTapi_Segment x))) (([.agg (rTapi_Segment x)] : List DV).map .d) := by
  obtain ⟨tag, els⟩ := x
  obtain ⟨hx1, hx2⟩ := hx
  dsimp only at hx1 hx2
  refine fspec_walkD (N := 52) (k := 1) Tryz.func33 fit_interchangeref2_copied (by kernel_rfl) rfl rfl ?_
  unfold sc_interchangeref2_copied
  repeat' (first | with_reducible refine W_seq ?_ | with_reducible refine W_reg ?_ | with_reducible refine W_regD ?_ | with_reducible refine W_regE ?_ | with_reducible refine W_regP ?_ | with_reducible refine W_block ?_ | with_reducible refine W_skip ?_ | with_reducible refine W_ret ?_ | with_reducible refine W_exit ?_ | with_reducible refine O_nil ?_ | with_reducible refine K_seq ?_ | with_reducible refine K_seqE ?_ | with_reducible refine K_seqR ?_ | with_reducible refine K_block ?_ | with_reducible refine K_blockR ?_ | with_reducible refine K_blockE ?_ | with_reducible refine K_forE ?_ | with_reducible refine K_forR ?_ | with_reducible refine K_rndE ?_ | with_reducible refine K_rndR ?_ | with_reducible refine O_o2r ?_ | ((with_reducible apply K_blockN); decide) | ((with_reducible apply O_r); (focus (simp only [push_cast, seval]; rfl)); (focus (first | exact trivial | omega))) | ((with_reducible apply O_w); (focus (simp only [push_cast, seval]; rfl)); (focus (first | exact trivial | omega))) | ((with_reducible apply O_x); (focus (simp only [push_cast, seval]; rfl)); (focus (first | exact trivial | omega)); (focus exact Rer_nil)))
  · unfold sc_interchangeref2_copied_B2 sc_interchangeref2_copied_L2
    refine W_block ?_
    refine W_rounds (α := Nat) (fun i => st [(1, .d (.ptr [.str tag, .slice (List.map rTapi_Element els)])), (2, .ref 2 0), (3, .ref 3 0), (4, .d (.int .i64 (i : Int))), (52, .d (.agg (rTapi_Segment ⟨tag, els⟩)))]
      [(2, .box [.d (.str []), .nils]), (3, .box [.d (.str tag), .vec 3001]), (3001, .vec 80 1 (vrowO msE rTapi_Element (els.take i)))]) (fun i => els.length - i) (fun i => i ≤ els.length) 0 ?h0 (Nat.zero_le _) ?round
    case h0 =>
      refine Imp.trans (imp_nilB (id := 3) (cid := 3001) (off := 1) (n := 1) (e := 80) (by (simp only [push_cast, seval]; rfl)) (by (simp only [push_cast, seval]; (try rfl); done)) (by decide) (by (simp only [push_cast, seval]; rfl))) ?_
      exact imp_st (by simp only [keepS, push_cast, seval, and_self]) (by simp only [keepH, push_cast, seval, List.take_zero, and_true, true_and]; rfl)
    case round =>
      intro i hi
      repeat' (first | with_reducible refine W_seq ?_ | with_reducible refine W_reg ?_ | with_reducible refine W_regD ?_ | with_reducible refine W_regE ?_ | with_reducible refine W_regP ?_ | with_reducible refine W_block ?_ | with_reducible refine W_skip ?_ | with_reducible refine W_ret ?_ | with_reducible refine W_exit ?_ | with_reducible refine O_nil ?_ | with_reducible refine K_seq ?_ | with_reducible refine K_seqE ?_ | with_reducible refine K_seqR ?_ | with_reducible refine K_block ?_ | with_reducible refine K_blockR ?_ | with_reducible refine K_blockE ?_ | with_reducible refine K_forE ?_ | with_reducible refine K_forR ?_ | with_reducible refine K_rndE ?_ | with_reducible refine K_rndR ?_ | with_reducible refine O_o2r ?_ | ((with_reducible apply K_blockN); decide) | ((with_reducible apply O_r); (focus (simp only [push_cast, seval]; rfl)); (focus (first | exact trivial | omega))) | ((with_reducible apply O_w); (focus (simp only [push_cast, seval]; rfl)); (focus (first | exact trivial | omega))) | ((with_reducible apply O_x); (focus (simp only [push_cast, seval]; rfl)); (focus (first | exact trivial | omega)); (focus exact Rer_nil)))
      refine W_condB (b := decide ((i : Int) < els.length)) (by (simp only [push_cast, seval]; (try rfl); done)) (fun hb => ?_) (fun hb => ?_)
      · have hi' : i < els.length := by have := of_decide_eq_true hb; omega
        obtain ⟨y, hy⟩ : ∃ y, els[i]? = some y := ⟨els[i], List.getElem?_eq_getElem hi'⟩
        obtain ⟨hy1, hy2⟩ := hx2 y (List.mem_of_getElem? hy)
        have hwi : IntKind.i64.wrap ((i : Int) + 1) = ((i + 1 : Nat) : Int) := by rw [wrap64 _ (by omega) (by omega)]; omega
        repeat' (first | with_reducible refine W_seq ?_ | with_reducible refine W_reg ?_ | with_reducible refine W_regD ?_ | with_reducible refine W_regE ?_ | with_reducible refine W_regP ?_ | with_reducible refine W_block ?_ | with_reducible refine W_skip ?_ | with_reducible refine W_ret ?_ | with_reducible refine W_exit ?_ | with_reducible refine O_nil ?_ | with_reducible refine K_seq ?_ | with_reducible refine K_seqE ?_ | with_reducible refine K_seqR ?_ | with_reducible refine K_block ?_ | with_reducible refine K_blockR ?_ | with_reducible refine K_blockE ?_ | with_reducible refine K_forE ?_ | with_reducible refine K_forR ?_ | with_reducible refine K_rndE ?_ | with_reducible refine K_rndR ?_ | with_reducible refine O_o2r ?_ | ((with_reducible apply K_blockN); decide) | ((with_reducible apply O_r); (focus (simp only [push_cast, seval]; rfl)); (focus (first | exact trivial | omega))) | ((with_reducible apply O_w); (focus (simp only [push_cast, seval]; rfl)); (focus (first | exact trivial | omega))) | ((with_reducible apply O_x); (focus (simp only [push_cast, seval]; rfl)); (focus (first | exact trivial | omega)); (focus exact Rer_nil)))
        unfold sc_interchangeref2_copied_B1 sc_interchangeref2_copied_L1
        refine W_block ?_
        refine W_rounds (α := Nat) (fun k => st [(1, .d (.ptr [.str tag, .slice (List.map rTapi_Element els)])), (2, .ref 2 0), (3, .ref 3 0), (4, .d (.int .i64 (i : Int))), (5, .ref 5 0), (6, .d (.int .i64 (k : Int))), (52, .d (.agg (rTapi_Segment ⟨tag, els⟩)))]
          [(2, .box [.d (.str []), .nils]), (3, .box [.d (.str tag), .vec 3001]), (5, .box [.vec 3002]), (3001, .vec 80 1 (vrowO msE rTapi_Element (els.take i))), (3002, .vec 82 1 (vrowO msR (rowL rowS) (y.fRepeats.take k)))]) (fun k => y.fRepeats.length - k) (fun k => k ≤ y.fRepeats.length) 0 ?g0 (Nat.zero_le _) ?ground
        case g0 =>
          refine Imp.trans (imp_nilB (id := 5) (cid := 3002) (off := 0) (n := 1) (e := 82) (by (simp only [push_cast, seval]; rfl)) (by (simp only [push_cast, seval]; (try rfl); done)) (by decide) (by (simp only [push_cast, seval]; rfl))) ?_
          exact imp_st (by simp only [keepS, push_cast, seval, and_self]) (by simp only [keepH, push_cast, seval, List.take_zero, and_true, true_and]; rfl)
        case ground =>
          intro k hk
          repeat' (first | ((with_reducible apply O_idxD); (focus (simp only [push_cast, seval]; rfl)); (focus (simp only [push_cast, seval]; rfl)); (focus (intro _; rfl)); (focus exact getI_ofN hy)) | with_reducible refine W_seq ?_ | with_reducible refine W_reg ?_ | with_reducible refine W_regD ?_ | with_reducible refine W_regE ?_ | with_reducible refine W_regP ?_ | with_reducible refine W_block ?_ | with_reducible refine W_skip ?_ | with_reducible refine W_ret ?_ | with_reducible refine W_exit ?_ | with_reducible refine O_nil ?_ | with_reducible refine K_seq ?_ | with_reducible refine K_seqE ?_ | with_reducible refine K_seqR ?_ | with_reducible refine K_block ?_ | with_reducible refine K_blockR ?_ | with_reducible refine K_blockE ?_ | with_reducible refine K_forE ?_ | with_reducible refine K_forR ?_ | with_reducible refine K_rndE ?_ | with_reducible refine K_rndR ?_ | with_reducible refine O_o2r ?_ | ((with_reducible apply K_blockN); decide) | ((with_reducible apply O_r); (focus (simp only [push_cast, seval]; rfl)); (focus (first | exact trivial | omega))) | ((with_reducible apply O_w); (focus (simp only [push_cast, seval]; rfl)); (focus (first | exact trivial | omega))) | ((with_reducible apply O_x); (focus (simp only [push_cast, seval]; rfl)); (focus (first | exact trivial | omega)); (focus exact Rer_nil)))
          refine W_condB (b := decide ((k : Int) < y.fRepeats.length)) (by (simp only [push_cast, seval]; (try rfl); done)) (fun hb2 => ?_) (fun hb2 => ?_)
          · have hk' : k < y.fRepeats.length := by have := of_decide_eq_true hb2; omega
            obtain ⟨z, hz⟩ : ∃ z, y.fRepeats[k]? = some z := ⟨y.fRepeats[k], List.getElem?_eq_getElem hk'⟩
            have hz1 := hy2 z (List.mem_of_getElem? hz)
            have hwk : IntKind.i64.wrap ((k : Int) + 1) = ((k + 1 : Nat) : Int) := by rw [wrap64 _ (by omega) (by omega)]; omega
            repeat' (first | ((with_reducible apply O_idxD); (focus (simp only [push_cast, seval]; rfl)); (focus (simp only [push_cast, seval]; rfl)); (focus (intro _; rfl)); (focus (first | exact getI_ofN hy | exact getI_ofN hz))) | ((with_reducible apply O_appNDx); (focus (simp only [push_cast, seval]; (try rfl); done)); (focus (simp only [push_cast, seval]; rfl)); (focus (intro r hr; obtain ⟨a, ha, rfl⟩ := List.mem_map.1 hr; obtain ⟨b, _, rfl⟩ := List.mem_map.1 ha; rfl)); (focus (simp; omega)); (focus ((repeat' (first | exact Rer_nil | ((with_reducible apply Rer_cons); (focus (simp only [push_cast, seval]; rfl)); (focus exact trivial); (focus (simp only [push_cast, seval]))))); done))) | ((with_reducible apply O_appDx); (focus (simp only [push_cast, seval]; rfl)); (focus (simp only [push_cast, seval]; rfl)); (focus (simp only [push_cast, seval]; rfl)); (focus simp); (focus (simp only [vrowO_length, List.length_take, List.length_cons, List.length_nil]; omega)); (focus exact Rer_nil)) | with_reducible refine W_seq ?_ | with_reducible refine W_reg ?_ | with_reducible refine W_regD ?_ | with_reducible refine W_regE ?_ | with_reducible refine W_regP ?_ | with_reducible refine W_block ?_ | with_reducible refine W_skip ?_ | with_reducible refine W_ret ?_ | with_reducible refine W_exit ?_ | with_reducible refine O_nil ?_ | with_reducible refine K_seq ?_ | with_reducible refine K_seqE ?_ | with_reducible refine K_seqR ?_ | with_reducible refine K_block ?_ | with_reducible refine K_blockR ?_ | with_reducible refine K_blockE ?_ | with_reducible refine K_forE ?_ | with_reducible refine K_forR ?_ | with_reducible refine K_rndE ?_ | with_reducible refine K_rndR ?_ | with_reducible refine O_o2r ?_ | ((with_reducible apply K_blockN); decide) | ((with_reducible apply O_r); (focus (simp only [push_cast, seval]; rfl)); (focus (first | exact trivial | omega))) | ((with_reducible apply O_w); (focus (simp only [push_cast, seval]; rfl)); (focus (first | exact trivial | omega))) | ((with_reducible apply O_x); (focus (simp only [push_cast, seval]; rfl)); (focus (first | exact trivial | omega)); (focus exact Rer_nil)))
            apply K_rnd (k + 1)
            (focus omega)
            rotate_left
            (focus exact hk')
            refine Imp.trans (imp_closeA (id := 3002) (cid := 41) (off := 0) (ms' := [.sh]) (row' := rowS) (y := z) (rows := vrowO msR (rowL rowS) (y.fRepeats.take k)) (by (simp only [push_cast, seval]; (try rfl); done)) rfl (by (simp only [push_cast, seval]; (try rfl); done)) r_shS rfl (fun _ => rfl) (by decide)) ?_
            have e1 : vrowO msR (rowL rowS) (y.fRepeats.take k) ++ [[.own (.sl 9 [.sh]) (.slice (List.map rowS z))]] = vrowO msR (rowL rowS) (y.fRepeats.take (k + 1)) := by
              obtain ⟨hlt, hget⟩ := List.getElem?_eq_some_iff.1 hz
              rw [List.take_succ_eq_append_getElem hlt, hget, vrowO_append]; rfl
            exact imp_st (by simp only [keepS, push_cast, seval, hwk, and_self]) (by simp only [keepH, push_cast, seval, e1, and_self])
          · have hkl : k = y.fRepeats.length := by have := of_decide_eq_false hb2; omega
            subst hkl
            repeat' (first | ((with_reducible apply O_appD); (focus (simp only [push_cast, seval]; rfl)); (focus (simp only [push_cast, seval]; rfl)); (focus (simp only [push_cast, seval]; rfl)); (focus (simp)); (focus (simp only [vrowO_length, List.length_take, List.length_cons, List.length_nil]; omega))) | with_reducible refine W_seq ?_ | with_reducible refine W_reg ?_ | with_reducible refine W_regD ?_ | with_reducible refine W_regE ?_ | with_reducible refine W_regP ?_ | with_reducible refine W_block ?_ | with_reducible refine W_skip ?_ | with_reducible refine W_ret ?_ | with_reducible refine W_exit ?_ | with_reducible refine O_nil ?_ | with_reducible refine K_seq ?_ | with_reducible refine K_seqE ?_ | with_reducible refine K_seqR ?_ | with_reducible refine K_block ?_ | with_reducible refine K_blockR ?_ | with_reducible refine K_blockE ?_ | with_reducible refine K_forE ?_ | with_reducible refine K_forR ?_ | with_reducible refine K_rndE ?_ | with_reducible refine K_rndR ?_ | with_reducible refine O_o2r ?_ | ((with_reducible apply K_blockN); decide) | ((with_reducible apply O_r); (focus (simp only [push_cast, seval]; rfl)); (focus (first | exact trivial | omega))) | ((with_reducible apply O_w); (focus (simp only [push_cast, seval]; rfl)); (focus (first | exact trivial | omega))) | ((with_reducible apply O_x); (focus (simp only [push_cast, seval]; rfl)); (focus (first | exact trivial | omega)); (focus exact Rer_nil)))
            apply K_rnd (i + 1)
            (focus omega)
            rotate_left
            (focus exact hi')
            refine Imp.trans (imp_closeA (id := 3001) (cid := 3002) (off := 0) (ms' := msR) (row' := rowL rowS) (y := y.fRepeats) (rows := vrowO msE rTapi_Element (els.take i)) (by (simp only [push_cast, seval]; (try rfl); done)) rfl (by (simp only [push_cast, seval]; (try rfl); done)) (by rw [List.take_length]; exact r_rflO) rfl (fun _ => rfl) (by decide)) ?_
            have e1 : vrowO msE rTapi_Element (els.take i) ++ [[.own (.sl 82 msR) (.slice (List.map (rowL rowS) y.fRepeats))]] = vrowO msE rTapi_Element (els.take (i + 1)) := by
              obtain ⟨hlt, hget⟩ := List.getElem?_eq_some_iff.1 hy
              rw [List.take_succ_eq_append_getElem hlt, hget, vrowO_append]; rfl
            exact imp_st (by simp only [keepS, push_cast, seval, hwi, and_self]) (by simp only [keepH, push_cast, seval, e1, and_self])
      · have hil : i = els.length := by have := of_decide_eq_false hb; omega
        subst hil
        repeat' (first | with_reducible refine W_seq ?_ | with_reducible refine W_reg ?_ | with_reducible refine W_regD ?_ | with_reducible refine W_regE ?_ | with_reducible refine W_regP ?_ | with_reducible refine W_block ?_ | with_reducible refine W_skip ?_ | with_reducible refine W_ret ?_ | with_reducible refine W_exit ?_ | with_reducible refine O_nil ?_ | with_reducible refine K_seq ?_ | with_reducible refine K_seqE ?_ | with_reducible refine K_seqR ?_ | with_reducible refine K_block ?_ | with_reducible refine K_blockR ?_ | with_reducible refine K_blockE ?_ | with_reducible refine K_forE ?_ | with_reducible refine K_forR ?_ | with_reducible refine K_rndE ?_ | with_reducible refine K_rndR ?_ | with_reducible refine O_o2r ?_ | ((with_reducible apply K_blockN); decide) | ((with_reducible apply O_r); (focus (simp only [push_cast, seval]; rfl)); (focus (first | exact trivial | omega))) | ((with_reducible apply O_w); (focus (simp only [push_cast, seval]; rfl)); (focus (first | exact trivial | omega))) | ((with_reducible apply O_x); (focus (simp only [push_cast, seval]; rfl)); (focus (first | exact trivial | omega)); (focus exact Rer_nil)))
        apply K_endO (r0 := (⟨tag, els⟩ : Tapi_Segment)) (r := ⟨tag, els⟩) (row := rTapi_Segment) rfl (Imp.refl _)
        (focus (simp only [push_cast, seval]; rfl))
        (focus (simp only [push_cast, seval]; rfl))
        (focus (simp only [push_cast, seval]; (try rfl); done))
        (focus exact ROkL.data rfl (ROk_vec (l := els) (row := rTapi_Element) (ms := msE) (by simp only [push_cast, seval, List.take_length]; rfl) rfl (fun _ => rfl) (by simp) ROkL.nil))
        (focus rfl)
theorem fspec_interchangeref2_copied (x : Tapi_Segment) : ∀ r, m_interchangeref2_copied x = some r → FSpec Tryz.prog 33 (([.agg (rTapi_Segment x)] : List DV).map .d) (.agg (ownR msS (rTapi_Segment r))) (([.agg (rTapi_Segment x)] : List DV).map .d) := by
  intro r hr
  unfold m_interchangeref2_copied at hr
  split at hr
  · rename_i hx; cases hr; exact own_copied x hx
  · cases hr
end Go.Proofs.YthcfbglbjipdaaaGreatDoor

/-
  The reference's copied, as a function that only computes.
-/
namespace Go.Proofs.YthcfbglbjipdaaaGreatDoor
set_option linter.unusedSimpArgs false
set_option linter.unusedVariables false
open Go.RowKit

theorem spec_interchangeref2_copied (x : Tapi_Segment) : ∀ r, m_interchangeref2_copied x = some r → PureSpec Tryz.prog 33 [.agg (rTapi_Segment x)] (.agg (rTapi_Segment r)) := fun r hr =>
  ((fspec_interchangeref2_copied x r hr).weak (ms' := [.sh, .sh]) rfl rfl).pure rfl
end Go.Proofs.YthcfbglbjipdaaaGreatDoor

/-
  Bodies of functions and what they compute, printed by programs of mine (wip/tool/gen.py, sc.py) out of the translation; the kernel holds each against the translation.
-/
namespace Go.Proofs.YthcfbglbjipdaaaGreatDoor
open Go.RowKit
set_option linter.unusedSimpArgs false
set_option linter.unusedVariables false
structure Tapi_Message where
  fRef : List UInt8
  fKind : List UInt8
  fVersion : List UInt8
  fSegments : List Tapi_Segment
  deriving DecidableEq
def rTapi_Message (x : Tapi_Message) : List DV := [.str x.fRef, .str x.fKind, .str x.fVersion, .slice (List.map rTapi_Segment x.fSegments)]
attribute [push_cast] rTapi_Message
theorem fT_Tapi_Message {d0 d1 d2 d3 : DV} {v0 : List UInt8} {v1 : List UInt8} {v2 : List UInt8} {v3 : List Tapi_Segment} (h0 : d0 = .str v0) (h1 : d1 = .str v1) (h2 : d2 = .str v2) (h3 : d3 = .slice (List.map rTapi_Segment v3)) : [d0, d1, d2, d3] = rTapi_Message ⟨v0, v1, v2, v3⟩ := by unfold rTapi_Message; simp only [h0, h1, h2, h3, List.cons_append, List.nil_append, List.append_assoc, List.append_nil]
theorem cT_Tapi_Message {d0 d1 d2 d3 : SV} {v0 : List UInt8} {v1 : List UInt8} {v2 : List UInt8} {v3 : List Tapi_Segment} (h0 : svle d0 (.d (.str v0))) (h1 : svle d1 (.d (.str v1))) (h2 : svle d2 (.d (.str v2))) (h3 : svle d3 (.d (.slice (List.map rTapi_Segment v3)))) : cellsle [d0, d1, d2, d3] (dR (rTapi_Message ⟨v0, v1, v2, v3⟩)) := by have h := (cellsle.append (cellsle.consS h0 cellsle.nil) (cellsle.append (cellsle.consS h1 cellsle.nil) (cellsle.append (cellsle.consS h2 cellsle.nil) (cellsle.consS h3 cellsle.nil)))); simpa only [rTapi_Message, dR, List.map_append, List.map_cons, List.map_nil, List.cons_append, List.nil_append, List.append_assoc, List.append_nil] using h
theorem eT_Tapi_Message {d0 d1 d2 d3 : SV} {v0 : List UInt8} {v1 : List UInt8} {v2 : List UInt8} {v3 : List Tapi_Segment} (h0 : d0 = .d (.str v0)) (h1 : d1 = .d (.str v1)) (h2 : d2 = .d (.str v2)) (h3 : d3 = .d (.slice (List.map rTapi_Segment v3))) : [d0, d1, d2, d3] = dR (rTapi_Message ⟨v0, v1, v2, v3⟩) := by simp only [rTapi_Message, dR, List.map_append, List.map_cons, List.map_nil, List.cons_append, List.nil_append, List.append_assoc, List.append_nil, h0, h1, h2, h3]

structure Tapi_Group where
  fRef : List UInt8
  fKind : List UInt8
  fMessages : List Tapi_Message
  deriving DecidableEq
def rTapi_Group (x : Tapi_Group) : List DV := [.str x.fRef, .str x.fKind, .slice (List.map rTapi_Message x.fMessages)]
attribute [push_cast] rTapi_Group
theorem fT_Tapi_Group {d0 d1 d2 : DV} {v0 : List UInt8} {v1 : List UInt8} {v2 : List Tapi_Message} (h0 : d0 = .str v0) (h1 : d1 = .str v1) (h2 : d2 = .slice (List.map rTapi_Message v2)) : [d0, d1, d2] = rTapi_Group ⟨v0, v1, v2⟩ := by unfold rTapi_Group; simp only [h0, h1, h2, List.cons_append, List.nil_append, List.append_assoc, List.append_nil]
theorem cT_Tapi_Group {d0 d1 d2 : SV} {v0 : List UInt8} {v1 : List UInt8} {v2 : List Tapi_Message} (h0 : svle d0 (.d (.str v0))) (h1 : svle d1 (.d (.str v1))) (h2 : svle d2 (.d (.slice (List.map rTapi_Message v2)))) : cellsle [d0, d1, d2] (dR (rTapi_Group ⟨v0, v1, v2⟩)) := by have h := (cellsle.append (cellsle.consS h0 cellsle.nil) (cellsle.append (cellsle.consS h1 cellsle.nil) (cellsle.consS h2 cellsle.nil))); simpa only [rTapi_Group, dR, List.map_append, List.map_cons, List.map_nil, List.cons_append, List.nil_append, List.append_assoc, List.append_nil] using h
structure Tapi_Interchange where
  fRef : List UInt8
  fSender : List UInt8
  fReceiver : List UInt8
  fDay : Int
  fSecond : Int
  fTest : Bool
  fGroups : List Tapi_Group
  deriving DecidableEq
def rTapi_Interchange (x : Tapi_Interchange) : List DV := [.str x.fRef, .str x.fSender, .str x.fReceiver, .int .i64 x.fDay, .int .i64 x.fSecond, .bool x.fTest, .slice (List.map rTapi_Group x.fGroups)]
attribute [push_cast] rTapi_Interchange
theorem fT_Tapi_Interchange {d0 d1 d2 d3 d4 d5 d6 : DV} {v0 : List UInt8} {v1 : List UInt8} {v2 : List UInt8} {v3 : Int} {v4 : Int} {v5 : Bool} {v6 : List Tapi_Group} (h0 : d0 = .str v0) (h1 : d1 = .str v1) (h2 : d2 = .str v2) (h3 : d3 = .int .i64 v3) (h4 : d4 = .int .i64 v4) (h5 : d5 = .bool v5) (h6 : d6 = .slice (List.map rTapi_Group v6)) : [d0, d1, d2, d3, d4, d5, d6] = rTapi_Interchange ⟨v0, v1, v2, v3, v4, v5, v6⟩ := by unfold rTapi_Interchange; simp only [h0, h1, h2, h3, h4, h5, h6, List.cons_append, List.nil_append, List.append_assoc, List.append_nil]
theorem cT_Tapi_Interchange {d0 d1 d2 d3 d4 d5 d6 : SV} {v0 : List UInt8} {v1 : List UInt8} {v2 : List UInt8} {v3 : Int} {v4 : Int} {v5 : Bool} {v6 : List Tapi_Group} (h0 : svle d0 (.d (.str v0))) (h1 : svle d1 (.d (.str v1))) (h2 : svle d2 (.d (.str v2))) (h3 : svle d3 (.d (.int .i64 v3))) (h4 : svle d4 (.d (.int .i64 v4))) (h5 : svle d5 (.d (.bool v5))) (h6 : svle d6 (.d (.slice (List.map rTapi_Group v6)))) : cellsle [d0, d1, d2, d3, d4, d5, d6] (dR (rTapi_Interchange ⟨v0, v1, v2, v3, v4, v5, v6⟩)) := by have h := (cellsle.append (cellsle.consS h0 cellsle.nil) (cellsle.append (cellsle.consS h1 cellsle.nil) (cellsle.append (cellsle.consS h2 cellsle.nil) (cellsle.append (cellsle.consS h3 cellsle.nil) (cellsle.append (cellsle.consS h4 cellsle.nil) (cellsle.append (cellsle.consS h5 cellsle.nil) (cellsle.consS h6 cellsle.nil))))))); simpa only [rTapi_Interchange, dR, List.map_append, List.map_cons, List.map_nil, List.cons_append, List.nil_append, List.append_assoc, List.append_nil] using h
theorem eT_Tapi_Interchange {d0 d1 d2 d3 d4 d5 d6 : SV} {v0 : List UInt8} {v1 : List UInt8} {v2 : List UInt8} {v3 : Int} {v4 : Int} {v5 : Bool} {v6 : List Tapi_Group} (h0 : d0 = .d (.str v0)) (h1 : d1 = .d (.str v1)) (h2 : d2 = .d (.str v2)) (h3 : d3 = .d (.int .i64 v3)) (h4 : d4 = .d (.int .i64 v4)) (h5 : d5 = .d (.bool v5)) (h6 : d6 = .d (.slice (List.map rTapi_Group v6))) : [d0, d1, d2, d3, d4, d5, d6] = dR (rTapi_Interchange ⟨v0, v1, v2, v3, v4, v5, v6⟩) := by simp only [rTapi_Interchange, dR, List.map_append, List.map_cons, List.map_nil, List.cons_append, List.nil_append, List.append_assoc, List.append_nil, h0, h1, h2, h3, h4, h5, h6]

/-- interchange/kit.IsRef -/
def sc_kit_IsRef : SC :=
  (.seq (.reg [.r 2 (.mv (.c (.d (.bool false))))])
  (.seq (.reg (.r 3 (.mv (.t 0)) :: .r 4 (.lenT (.t 3)) :: .r 5 (.bin .geq (.t 4) (.c (.d (.int .i64 1)))) :: .r 6 (.mv (.t 5)) :: gapp [7, 8, 9] 6 true (.r 7 (.mv (.t 0)) :: .r 8 (.lenT (.t 7)) :: .r 9 (.bin .leq (.t 8) (.c (.d (.int .i64 14)))) :: []) (.r 10 (.pick (.t 6) (.t 9) (.c (.d (.bool false)))) :: .r 11 (.mv (.t 10)) :: gapp [12, 13, 14] 11 true (.r 12 (.mv (.t 0)) :: .c 13 (.f 30) [.t 12, .c (.d (.str [65, 66, 67, 68, 69, 70, 71, 72, 73, 74, 75, 76, 77, 78, 79, 80, 81, 82, 83, 84, 85, 86, 87, 88, 89, 90, 48, 49, 50, 51, 52, 53, 54, 55, 56, 57, 45]))] :: .r 14 (.bin .eql (.t 13) (.c (.d (.str [])))) :: []) (.r 15 (.pick (.t 11) (.t 14) (.c (.d (.bool false)))) :: .r 2 (.mv (.t 15)) :: []))))
  .ret))
theorem fit_kit_IsRef : fits Tryz.prog 15 Tryz.f15 sc_kit_IsRef [.t 2] 1 = true := by kernel_rfl

/-- interchange/kit.IsName -/
def sc_kit_IsName : SC :=
  (.seq (.reg [.r 2 (.mv (.c (.d (.bool false))))])
  (.seq (.seq (.reg (.r 3 (.mv (.t 0)) :: .r 4 (.lenT (.t 3)) :: .r 5 (.bin .lss (.t 4) (.c (.d (.int .i64 1)))) :: .r 6 (.mv (.t 5)) :: gapp [7, 8, 9] 6 false (.r 7 (.mv (.t 0)) :: .r 8 (.lenT (.t 7)) :: .r 9 (.bin .gtr (.t 8) (.c (.d (.int .i64 40)))) :: []) (.r 10 (.pick (.t 6) (.c (.d (.bool true))) (.t 9)) :: .r 11 (.mv (.t 10)) :: gapp [12, 13, 14] 11 false (.r 12 (.mv (.t 0)) :: .r 13 (.sidx (.t 12) (.c (.d (.int .i64 0)))) :: .r 14 (.bin .lss (.t 13) (.c (.d (.int .u8 97)))) :: []) (.r 15 (.pick (.t 11) (.c (.d (.bool true))) (.t 14)) :: .r 16 (.mv (.t 15)) :: gapp [17, 18, 19] 16 false (.r 17 (.mv (.t 0)) :: .r 18 (.sidx (.t 17) (.c (.d (.int .i64 0)))) :: .r 19 (.bin .gtr (.t 18) (.c (.d (.int .u8 122)))) :: []) (.r 20 (.pick (.t 16) (.c (.d (.bool true))) (.t 19)) :: [])))))
  (.cond (.t 20)
    (.seq (.reg [.r 2 (.mv (.c (.d (.bool false))))])
    .ret)
    .skip))
  (.seq (.reg [.r 21 (.mv (.t 0)),
     .c 22 (.f 30) [.t 21, .c (.d (.str [97, 98, 99, 100, 101, 102, 103, 104, 105, 106, 107, 108, 109, 110, 111, 112, 113, 114, 115, 116, 117, 118, 119, 120, 121, 122, 48, 49, 50, 51, 52, 53, 54, 55, 56, 57, 45]))],
     .r 23 (.bin .eql (.t 22) (.c (.d (.str [])))),
     .r 2 (.mv (.t 23))])
  .ret)))
theorem fit_kit_IsName : fits Tryz.prog 24 Tryz.f24 sc_kit_IsName [.t 2] 1 = true := by kernel_rfl

/-- interchange/kit.Outside -/
def sc_kit_Outside : SC :=
  (.seq (.reg [.r 6 (.mv (.c (.d (.bool false))))])
  (.seq (.reg (.r 7 (.mv (.t 0)) :: .r 8 (.mv (.t 1)) :: .r 9 (.bin .lss (.t 7) (.t 8)) :: .r 10 (.mv (.t 9)) :: gapp [11, 12, 13] 10 false (.r 11 (.mv (.t 0)) :: .r 12 (.mv (.t 2)) :: .r 13 (.bin .gtr (.t 11) (.t 12)) :: []) (.r 14 (.pick (.t 10) (.c (.d (.bool true))) (.t 13)) :: .r 6 (.mv (.t 14)) :: [])))
  .ret))
theorem fit_kit_Outside : fits Tryz.prog 11 Tryz.f11 sc_kit_Outside [.t 6] 3 = true := by kernel_rfl

/-- interchange/wire.groupFault$1 -/
def sc_wire_groupFault_1 : SC :=
  (.seq (.reg [.r 2 (.boxI (.t 0)),
     .r 3 (.mv (.c (.d (.bool false))))])
  (.seq (.reg [.r 4 (.fld 0 (.t 2)),
     .o 5 (.ld1 (.t 4)),
     .r 6 (.fld 0 (.t 1)),
     .o 7 (.ld1 (.t 6)),
     .r 8 (.bin .eql (.t 5) (.t 7)),
     .r 3 (.mv (.t 8))])
  .ret))
theorem fit_wire_groupFault_1 : fits Tryz.prog 39 Tryz.f39 sc_wire_groupFault_1 [.t 3] 2 = true := by kernel_rfl

def sc_slices_IndexFunc_interchange_api_Group_interchange_api_Group_L1 : SC :=
  (.seq (.reg [.r 9 (.bin .lss (.t 8) (.t 7))])
  (.seq (.cond (.t 9)
    .skip
    (.exit 0))
  (.seq (.block 1 (.seq (.reg [.r 10 (.mv (.t 8)),
       .r 5 (.mv (.t 10))])
    (.seq (.reg [.r 11 (.mv (.t 1)),
       .r 12 (.mv (.t 0)),
       .r 13 (.mv (.t 5)),
       .r 14 (.idx 3 (.t 12) (.t 13)),
       .o 15 (.ldA 3 (.t 14)),
       .c 16 (.t 11) [.t 15]])
    (.cond (.t 16)
      (.seq (.reg [.r 17 (.mv (.t 5)),
         .r 4 (.mv (.t 17))])
      .ret)
      .skip))))
  (.reg [.r 18 (.bin .add (.t 8) (.c (.d (.int .i64 1)))),
     .r 8 (.mv (.t 18))]))))
def sc_slices_IndexFunc_interchange_api_Group_interchange_api_Group_B1 : SC := .block 0 (.loop sc_slices_IndexFunc_interchange_api_Group_interchange_api_Group_L1)
/-- slices.IndexFunc[[]interchange/api.Group,interchange/api.Group] -/
def sc_slices_IndexFunc_interchange_api_Group_interchange_api_Group : SC :=
  (.seq (.reg [.r 4 (.mv (.c (.d (.int .i64 0))))])
  (.seq (.seq (.reg [.r 6 (.mv (.t 0)),
     .r 7 (.len (.t 6)),
     .r 8 (.mv (.c (.d (.int .i64 0))))])
  sc_slices_IndexFunc_interchange_api_Group_interchange_api_Group_B1)
  (.seq (.reg [.r 4 (.mv (.c (.d (.int .i64 (-1)))))])
  .ret)))
theorem fit_slices_IndexFunc_interchange_api_Group_interchange_api_Group : fits Tryz.prog 57 Tryz.f57 sc_slices_IndexFunc_interchange_api_Group_interchange_api_Group [.t 4] 2 = true := by kernel_rfl

/-- interchange/wire.messageFault$1 -/
def sc_wire_messageFault_1 : SC :=
  (.seq (.reg [.r 2 (.boxI (.t 0)),
     .r 3 (.mv (.c (.d (.bool false))))])
  (.seq (.reg [.r 4 (.fld 0 (.t 2)),
     .o 5 (.ld1 (.t 4)),
     .r 6 (.fld 0 (.t 1)),
     .o 7 (.ld1 (.t 6)),
     .r 8 (.bin .eql (.t 5) (.t 7)),
     .r 3 (.mv (.t 8))])
  .ret))
theorem fit_wire_messageFault_1 : fits Tryz.prog 59 Tryz.f59 sc_wire_messageFault_1 [.t 3] 2 = true := by kernel_rfl

def sc_slices_IndexFunc_interchange_api_Message_interchange_api_Message_L1 : SC :=
  (.seq (.reg [.r 9 (.bin .lss (.t 8) (.t 7))])
  (.seq (.cond (.t 9)
    .skip
    (.exit 0))
  (.seq (.block 1 (.seq (.reg [.r 10 (.mv (.t 8)),
       .r 5 (.mv (.t 10))])
    (.seq (.reg [.r 11 (.mv (.t 1)),
       .r 12 (.mv (.t 0)),
       .r 13 (.mv (.t 5)),
       .r 14 (.idx 4 (.t 12) (.t 13)),
       .o 15 (.ldA 4 (.t 14)),
       .c 16 (.t 11) [.t 15]])
    (.cond (.t 16)
      (.seq (.reg [.r 17 (.mv (.t 5)),
         .r 4 (.mv (.t 17))])
      .ret)
      .skip))))
  (.reg [.r 18 (.bin .add (.t 8) (.c (.d (.int .i64 1)))),
     .r 8 (.mv (.t 18))]))))
def sc_slices_IndexFunc_interchange_api_Message_interchange_api_Message_B1 : SC := .block 0 (.loop sc_slices_IndexFunc_interchange_api_Message_interchange_api_Message_L1)
/-- slices.IndexFunc[[]interchange/api.Message,interchange/api.Message] -/
def sc_slices_IndexFunc_interchange_api_Message_interchange_api_Message : SC :=
  (.seq (.reg [.r 4 (.mv (.c (.d (.int .i64 0))))])
  (.seq (.seq (.reg [.r 6 (.mv (.t 0)),
     .r 7 (.len (.t 6)),
     .r 8 (.mv (.c (.d (.int .i64 0))))])
  sc_slices_IndexFunc_interchange_api_Message_interchange_api_Message_B1)
  (.seq (.reg [.r 4 (.mv (.c (.d (.int .i64 (-1)))))])
  .ret)))
theorem fit_slices_IndexFunc_interchange_api_Message_interchange_api_Message : fits Tryz.prog 80 Tryz.f80 sc_slices_IndexFunc_interchange_api_Message_interchange_api_Message [.t 4] 2 = true := by kernel_rfl

/-- interchange/wire.heads -/
def sc_wire_heads : SC :=
  (.seq (.reg [.r 0 (.mv (.c (.nils)))])
  (.seq (.reg [.r 1 (.bslice 1 [.c (.d (.str [73, 72, 68])), .c (.d (.str [71, 72, 68])), .c (.d (.str [77, 72, 68]))]),
     .r 0 (.mv (.t 1))])
  .ret))
theorem fit_wire_heads : fits Tryz.prog 62 Tryz.f62 sc_wire_heads [.t 0] 0 = true := by kernel_rfl

def sc_slices_Index_string_string_L1 : SC :=
  (.seq (.reg [.r 9 (.bin .lss (.t 8) (.t 7))])
  (.seq (.cond (.t 9)
    .skip
    (.exit 0))
  (.seq (.block 1 (.seq (.reg [.r 10 (.mv (.t 8)),
       .r 5 (.mv (.t 10))])
    (.seq (.reg [.r 11 (.mv (.t 1)),
       .r 12 (.mv (.t 0)),
       .r 13 (.mv (.t 5)),
       .r 14 (.idx 1 (.t 12) (.t 13)),
       .o 15 (.ld1 (.t 14)),
       .r 16 (.bin .eql (.t 11) (.t 15))])
    (.cond (.t 16)
      (.seq (.reg [.r 17 (.mv (.t 5)),
         .r 4 (.mv (.t 17))])
      .ret)
      .skip))))
  (.reg [.r 18 (.bin .add (.t 8) (.c (.d (.int .i64 1)))),
     .r 8 (.mv (.t 18))]))))
def sc_slices_Index_string_string_B1 : SC := .block 0 (.loop sc_slices_Index_string_string_L1)
/-- slices.Index[[]string,string] -/
def sc_slices_Index_string_string : SC :=
  (.seq (.reg [.r 4 (.mv (.c (.d (.int .i64 0))))])
  (.seq (.seq (.reg [.r 6 (.mv (.t 0)),
     .r 7 (.len (.t 6)),
     .r 8 (.mv (.c (.d (.int .i64 0))))])
  sc_slices_Index_string_string_B1)
  (.seq (.reg [.r 4 (.mv (.c (.d (.int .i64 (-1)))))])
  .ret)))
theorem fit_slices_Index_string_string : fits Tryz.prog 83 Tryz.f83 sc_slices_Index_string_string [.t 4] 2 = true := by kernel_rfl

/-- interchange/wire.tails -/
def sc_wire_tails : SC :=
  (.seq (.reg [.r 0 (.mv (.c (.nils)))])
  (.seq (.reg [.r 1 (.bslice 1 [.c (.d (.str [73, 84, 82])), .c (.d (.str [71, 84, 82])), .c (.d (.str [77, 84, 82]))]),
     .r 0 (.mv (.t 1))])
  .ret))
theorem fit_wire_tails : fits Tryz.prog 63 Tryz.f63 sc_wire_tails [.t 0] 0 = true := by kernel_rfl

def sc_wire_counts_L1 : SC :=
  (.seq (.reg [.r 26 (.bin .lss (.t 25) (.t 24))])
  (.seq (.cond (.t 26)
    .skip
    (.exit 2))
  (.seq (.block 3 (.seq (.reg [.r 27 (.idx 4 (.t 23) (.t 25)),
       .o 28 (.ldA 4 (.t 27)),
       .w 7 (.boxM (.c (.agg [.d (.str []), .d (.str []), .d (.str []), .nils]))),
       .w 0 (.st 4 (.t 7) (.t 28))])
    (.reg [.r 29 (.mv (.t 3)),
       .r 30 (.fld 3 (.t 7)),
       .o 31 (.ld1 (.t 30)),
       .r 32 (.len (.t 31)),
       .r 33 (.bin .add (.c (.d (.int .i64 2))) (.t 32)),
       .r 34 (.bin .add (.t 29) (.t 33)),
       .r 3 (.mv (.t 34))])))
  (.reg [.r 35 (.bin .add (.t 25) (.c (.d (.int .i64 1)))),
     .r 25 (.mv (.t 35))]))))
def sc_wire_counts_B1 : SC := .block 2 (.loop sc_wire_counts_L1)
def sc_wire_counts_L2 : SC :=
  (.seq (.reg [.r 12 (.bin .lss (.t 11) (.t 10))])
  (.seq (.cond (.t 12)
    .skip
    (.exit 0))
  (.seq (.block 1 (.seq (.reg [.r 13 (.idx 3 (.t 9) (.t 11)),
       .o 14 (.ldA 3 (.t 13)),
       .w 5 (.boxM (.c (.agg [.d (.str []), .d (.str []), .nils]))),
       .w 0 (.st 3 (.t 5) (.t 14))])
    (.seq (.reg [.r 15 (.mv (.t 3)),
       .r 16 (.bin .add (.t 15) (.c (.d (.int .i64 2)))),
       .r 3 (.mv (.t 16))])
    (.seq (.reg [.r 17 (.mv (.t 2)),
       .r 18 (.fld 2 (.t 5)),
       .o 19 (.ld1 (.t 18)),
       .r 20 (.len (.t 19)),
       .r 21 (.bin .add (.t 17) (.t 20)),
       .r 2 (.mv (.t 21))])
    (.seq (.reg [.r 22 (.fld 2 (.t 5)),
       .o 23 (.ld1 (.t 22)),
       .r 24 (.len (.t 23)),
       .r 25 (.mv (.c (.d (.int .i64 0))))])
    sc_wire_counts_B1)))))
  (.reg [.r 36 (.bin .add (.t 11) (.c (.d (.int .i64 1)))),
     .r 11 (.mv (.t 36))]))))
def sc_wire_counts_B2 : SC := .block 0 (.loop sc_wire_counts_L2)
/-- interchange/wire.counts -/
def sc_wire_counts : SC :=
  (.seq (.reg [.r 1 (.boxI (.t 0)),
     .r 2 (.mv (.c (.d (.int .i64 0)))),
     .r 3 (.mv (.c (.d (.int .i64 0))))])
  (.seq (.reg [.r 3 (.mv (.c (.d (.int .i64 2))))])
  (.seq (.seq (.reg [.r 8 (.fld 6 (.t 1)),
     .o 9 (.ld1 (.t 8)),
     .r 10 (.len (.t 9)),
     .r 11 (.mv (.c (.d (.int .i64 0))))])
  sc_wire_counts_B2)
  (.seq (.reg [.r 37 (.mv (.t 2)),
     .r 38 (.mv (.t 3)),
     .r 2 (.mv (.t 37)),
     .r 3 (.mv (.t 38))])
  .ret))))
theorem fit_wire_counts : fits Tryz.prog 27 Tryz.f27 sc_wire_counts [.t 2, .t 3] 1 = true := by kernel_rfl

def sc_interchangeref2_IsReference_L1 : SC :=
  (.seq (.seq (.reg [.r 4 (.mv (.t 3)),
     .r 5 (.mv (.t 0)),
     .r 6 (.lenT (.t 5)),
     .r 7 (.bin .lss (.t 4) (.t 6))])
  (.cond (.t 7)
    .skip
    (.exit 0)))
  (.seq (.block 1 (.seq (.reg (.r 10 (.mv (.t 0)) :: .r 11 (.mv (.t 3)) :: .r 12 (.sidx (.t 10) (.t 11)) :: .r 13 (.bin .geq (.t 12) (.c (.d (.int .u8 65)))) :: .r 14 (.mv (.t 13)) :: gapp [15, 16, 17, 18] 14 true (.r 15 (.mv (.t 0)) :: .r 16 (.mv (.t 3)) :: .r 17 (.sidx (.t 15) (.t 16)) :: .r 18 (.bin .leq (.t 17) (.c (.d (.int .u8 90)))) :: []) (.r 19 (.pick (.t 14) (.t 18) (.c (.d (.bool false)))) :: .r 20 (.mv (.t 19)) :: gapp [21, 22, 23, 24, 25, 26, 27, 28, 29, 30] 20 false (.r 21 (.mv (.t 0)) :: .r 22 (.mv (.t 3)) :: .r 23 (.sidx (.t 21) (.t 22)) :: .r 24 (.bin .geq (.t 23) (.c (.d (.int .u8 48)))) :: .r 25 (.mv (.t 24)) :: gapp [26, 27, 28, 29] 25 true (.r 26 (.mv (.t 0)) :: .r 27 (.mv (.t 3)) :: .r 28 (.sidx (.t 26) (.t 27)) :: .r 29 (.bin .leq (.t 28) (.c (.d (.int .u8 57)))) :: []) (.r 30 (.pick (.t 25) (.t 29) (.c (.d (.bool false)))) :: [])) (.r 31 (.pick (.t 20) (.c (.d (.bool true))) (.t 30)) :: .r 32 (.mv (.t 31)) :: gapp [33, 34, 35, 36] 32 false (.r 33 (.mv (.t 0)) :: .r 34 (.mv (.t 3)) :: .r 35 (.sidx (.t 33) (.t 34)) :: .r 36 (.bin .eql (.t 35) (.c (.d (.int .u8 45)))) :: []) (.r 37 (.pick (.t 32) (.c (.d (.bool true))) (.t 36)) :: .r 38 (.not (.t 37)) :: [])))))
    (.cond (.t 38)
      (.seq (.reg [.r 2 (.mv (.c (.d (.bool false))))])
      .ret)
      .skip)))
  (.reg [.r 8 (.mv (.t 3)),
     .r 9 (.bin .add (.t 8) (.c (.d (.int .i64 1)))),
     .r 3 (.mv (.t 9))])))
def sc_interchangeref2_IsReference_B1 : SC := .block 0 (.loop sc_interchangeref2_IsReference_L1)
/-- interchange/interchangeref2.IsReference -/
def sc_interchangeref2_IsReference : SC :=
  (.seq (.reg [.r 2 (.mv (.c (.d (.bool false))))])
  (.seq (.seq (.reg [.r 3 (.mv (.c (.d (.int .i64 0))))])
  sc_interchangeref2_IsReference_B1)
  (.seq (.reg (.r 39 (.mv (.t 0)) :: .r 40 (.bin .neq (.t 39) (.c (.d (.str [])))) :: .r 41 (.mv (.t 40)) :: gapp [42, 43, 44] 41 true (.r 42 (.mv (.t 0)) :: .r 43 (.lenT (.t 42)) :: .r 44 (.bin .leq (.t 43) (.c (.d (.int .i64 14)))) :: []) (.r 45 (.pick (.t 41) (.t 44) (.c (.d (.bool false)))) :: .r 2 (.mv (.t 45)) :: [])))
  .ret)))
theorem fit_interchangeref2_IsReference : fits Tryz.prog 19 Tryz.f19 sc_interchangeref2_IsReference [.t 2] 1 = true := by kernel_rfl

set_option maxRecDepth 100000 in
set_option maxHeartbeats 40000000 in
noncomputable def sims_G3_0_0 : (∀ (x0 : List UInt8), {m : Option (Bool) // ∀ r, m = some r → PureSpec Tryz.prog 15 [.str x0] (.bool r)}) × (∀ (x0 : List UInt8), {m : Option (Bool) // ∀ r, m = some r → PureSpec Tryz.prog 24 [.str x0] (.bool r)}) × (∀ (x0 : Int) (x1 : Int) (x2 : Int), {m : Option (Bool) // ∀ r, m = some r → PureSpec Tryz.prog 11 [.int .i64 x0, .int .i64 x1, .int .i64 x2] (.bool r)}) × (∀ (x0 : Tapi_Group) (y0 : Tapi_Group), {m : Option (Bool) // ∀ r, m = some r → PureSpec Tryz.prog 39 [.agg (rTapi_Group x0), .ptr (rTapi_Group y0)] (.bool r)}) × (∀ (x0 : List Tapi_Group) (f1 : FuncId) (c1 : List DV) (p1 : Tapi_Group → Option (Bool)) (h1 : ∀ a0 r, p1 a0 = some r → PureSpec Tryz.prog f1 ([.agg (rTapi_Group a0)] ++ c1) (.bool r)), {m : Option (Int) // ∀ r, m = some r → PureSpec Tryz.prog 57 [.slice (List.map rTapi_Group x0), .fn f1 c1] (.int .i64 r)}) × (∀ (x0 : Tapi_Message) (y0 : Tapi_Message), {m : Option (Bool) // ∀ r, m = some r → PureSpec Tryz.prog 59 [.agg (rTapi_Message x0), .ptr (rTapi_Message y0)] (.bool r)}) × (∀ (x0 : List Tapi_Message) (f1 : FuncId) (c1 : List DV) (p1 : Tapi_Message → Option (Bool)) (h1 : ∀ a0 r, p1 a0 = some r → PureSpec Tryz.prog f1 ([.agg (rTapi_Message a0)] ++ c1) (.bool r)), {m : Option (Int) // ∀ r, m = some r → PureSpec Tryz.prog 80 [.slice (List.map rTapi_Message x0), .fn f1 c1] (.int .i64 r)}) × ({m : Option ((List (List UInt8))) // ∀ r, m = some r → PureSpec Tryz.prog 62 [] (.slice (List.map rowS r))}) × (∀ (x0 : List (List UInt8)) (x1 : List UInt8), {m : Option (Int) // ∀ r, m = some r → PureSpec Tryz.prog 83 [.slice (List.map rowS x0), .str x1] (.int .i64 r)}) × ({m : Option ((List (List UInt8))) // ∀ r, m = some r → PureSpec Tryz.prog 63 [] (.slice (List.map rowS r))}) × (∀ (x0 : Tapi_Interchange), {m : Option (Int × Int) // ∀ r, m = some r → PureSpec Tryz.prog 27 [.agg (rTapi_Interchange x0)] (.tup [.int .i64 r.1, .int .i64 r.2])}) × (∀ (x0 : List UInt8), {m : Option (Bool) // ∀ r, m = some r → PureSpec Tryz.prog 19 [.str x0] (.bool r)}) := by
  refine ⟨?g0, ?g1, ?g2, ?g3, ?g4, ?g5, ?g6, ?g7, ?g8, ?g9, ?g10, ?g11⟩
  case' g0 => (intro x0; apply Subtype.mk; intro r hm; apply pure_walk Tryz.func15 fit_kit_IsRef; unfold sc_kit_IsRef)
  case' g1 => (intro x0; apply Subtype.mk; intro r hm; apply pure_walk Tryz.func24 fit_kit_IsName; unfold sc_kit_IsName)
  case' g2 => (intro x0 x1 x2; apply Subtype.mk; intro r hm; apply pure_walk Tryz.func11 fit_kit_Outside; unfold sc_kit_Outside)
  case' g3 => (intro x0 y0; apply Subtype.mk; intro r hm; apply pure_walk Tryz.func39 fit_wire_groupFault_1; unfold sc_wire_groupFault_1)
  case' g4 => (intro x0 f1 c1 p1 h1; apply Subtype.mk; intro r hm; apply pure_walk Tryz.func57 fit_slices_IndexFunc_interchange_api_Group_interchange_api_Group; unfold sc_slices_IndexFunc_interchange_api_Group_interchange_api_Group)
  case' g5 => (intro x0 y0; apply Subtype.mk; intro r hm; apply pure_walk Tryz.func59 fit_wire_messageFault_1; unfold sc_wire_messageFault_1)
  case' g6 => (intro x0 f1 c1 p1 h1; apply Subtype.mk; intro r hm; apply pure_walk Tryz.func80 fit_slices_IndexFunc_interchange_api_Message_interchange_api_Message; unfold sc_slices_IndexFunc_interchange_api_Message_interchange_api_Message)
  case' g7 => (apply Subtype.mk; intro r hm; apply pure_walk Tryz.func62 fit_wire_heads; unfold sc_wire_heads)
  case' g8 => (intro x0 x1; apply Subtype.mk; intro r hm; apply pure_walk Tryz.func83 fit_slices_Index_string_string; unfold sc_slices_Index_string_string)
  case' g9 => (apply Subtype.mk; intro r hm; apply pure_walk Tryz.func63 fit_wire_tails; unfold sc_wire_tails)
  case' g10 => (intro x0; apply Subtype.mk; intro r hm; apply pure_walk Tryz.func27 fit_wire_counts; unfold sc_wire_counts)
  case' g11 => (intro x0; apply Subtype.mk; intro r hm; apply pure_walk Tryz.func19 fit_interchangeref2_IsReference; unfold sc_interchangeref2_IsReference)
  all_goals (repeat' (first | with_reducible refine W_seq ?_ | with_reducible refine W_reg ?_ | with_reducible refine W_block ?_ | with_reducible refine W_skip ?_ | with_reducible refine W_ret ?_ | with_reducible refine W_exit ?_ | with_reducible refine O_nil ?_ | with_reducible refine K_seq ?_ | with_reducible refine K_seqE ?_ | with_reducible refine K_seqR ?_ | with_reducible refine K_block ?_ | with_reducible refine K_blockR ?_ | with_reducible refine O_o2r ?_ | ((with_reducible apply O_idxr hm); (iterate 2 (simp only [push_cast, seval]; rfl)); (intro _; rfl); intro e hm) | ((with_reducible apply O_sidxr hm); (iterate 2 (simp only [push_cast, seval]; rfl)); intro e hm) | ((with_reducible apply O_r); (simp only [push_cast, seval]; rfl); (first | exact trivial)) | ((with_reducible apply O_and hm); (simp only [push_cast, seval]; rfl); rfl; intro v hm; rotate_left; intro v g hm) | ((with_reducible apply O_or hm); (simp only [push_cast, seval]; rfl); rfl; intro v hm; rotate_left; intro v g hm) | ((with_reducible apply O_cF hm); (simp only [push_cast, seval]; rfl); (first | apply spec_strings_Trim _ _); (any_goals ((repeat' (first | rfl)); done)); intro x hm) | ((with_reducible apply O_cvS hm); (iterate 2 (simp only [push_cast, seval]; rfl)); (focus (first | exact h1 _)); intro x hm) | ((with_reducible apply O_w); (simp only [push_cast, seval]; rfl); (first | exact trivial)) | ((with_reducible apply S_condB hm); (simp only [push_cast, seval]; rfl); intro hm; rotate_left; intro hm) | ((with_reducible apply K_end2 hm); (focus (simp only [resOf, resL, RV.get, push_cast, seval]; rfl)); (focus (first | (dsimp only; done))); (focus ((repeat' (first | rfl)); done))) | ((with_reducible apply K_endS hm); (focus (simp only [resOf, resL, RV.get, push_cast, seval]; rfl)); (focus ((repeat' (first | rfl | (with_reducible first | apply dv_slice | apply fold_nil | apply fold_cons))); done))) | ((with_reducible apply K_bool hm); (simp only [push_cast, seval]; rfl)) | ((with_reducible apply K_leave hm); intro r hm) | ((with_reducible apply K_leaveR hm); intro r hm) | ((apply S_loopY (b := 0) (X := sc_slices_IndexFunc_interchange_api_Group_interchange_api_Group_B1) (x := sc_slices_IndexFunc_interchange_api_Group_interchange_api_Group_L1) rfl (fun (c : SV × SV × SV) (s : Int) => st [(0, c.1), (1, c.2.1), (7, c.2.2), (8, .d (.int .i64 s))] []) (c := (_, _, _)) (s0 := _) hm); (focus (first | (dsimp only; done))); (with_reducible refine Then.mk ?_ ?_)) | ((apply S_loopY (b := 0) (X := sc_slices_IndexFunc_interchange_api_Message_interchange_api_Message_B1) (x := sc_slices_IndexFunc_interchange_api_Message_interchange_api_Message_L1) rfl (fun (c : SV × SV × SV) (s : Int) => st [(0, c.1), (1, c.2.1), (7, c.2.2), (8, .d (.int .i64 s))] []) (c := (_, _, _)) (s0 := _) hm); (focus (first | (dsimp only; done))); (with_reducible refine Then.mk ?_ ?_)) | ((apply S_loopY (b := 0) (X := sc_slices_Index_string_string_B1) (x := sc_slices_Index_string_string_L1) rfl (fun (c : SV × SV × SV) (s : Int) => st [(0, c.1), (1, c.2.1), (7, c.2.2), (8, .d (.int .i64 s))] []) (c := (_, _, _)) (s0 := _) hm); (focus (first | (dsimp only; done))); (with_reducible refine Then.mk ?_ ?_)) | ((apply S_loopY (b := 2) (X := sc_wire_counts_B1) (x := sc_wire_counts_L1) rfl (fun (c : SV × SV × SV × SV × SV × SV) (s : Int × Int) => st [(2, c.1), (3, .d (.int .i64 s.1)), (9, c.2.1), (10, c.2.2.1), (11, c.2.2.2.1), (23, c.2.2.2.2.1), (24, c.2.2.2.2.2), (25, .d (.int .i64 s.2))] []) (c := (_, _, _, _, _, _)) (s0 := (_, _)) hm); (focus (first | (dsimp only; done))); (with_reducible refine Then.mk ?_ ?_)) | ((apply S_loopY (b := 0) (X := sc_wire_counts_B2) (x := sc_wire_counts_L2) rfl (fun (c : SV × SV) (s : Int × Int × Int) => st [(2, .d (.int .i64 s.1)), (3, .d (.int .i64 s.2.1)), (9, c.1), (10, c.2), (11, .d (.int .i64 s.2.2))] []) (c := (_, _)) (s0 := (_, _, _)) hm); (focus (first | (dsimp only; done))); (with_reducible refine Then.mk ?_ ?_)) | ((apply S_loopY (b := 0) (X := sc_interchangeref2_IsReference_B1) (x := sc_interchangeref2_IsReference_L1) rfl (fun (c : SV) (s : Int) => st [(0, c), (3, .d (.int .i64 s))] []) (c := _) (s0 := _) hm); (focus (first | (dsimp only; done))); (with_reducible refine Then.mk ?_ ?_)) | ((apply K_next (s' := (_, _, _)) hm); (focus (first | (dsimp only; done)))) | ((apply K_brk (s' := (_, _, _)) hm); (focus (first | (dsimp only; done)))) | ((apply K_next (s' := (_, _)) hm); (focus (first | (dsimp only; done)))) | ((apply K_brk (s' := (_, _)) hm); (focus (first | (dsimp only; done)))) | ((apply K_next (s' := _) hm); (focus (first | (dsimp only; done)))) | ((apply K_brk (s' := _) hm); (focus (first | (dsimp only; done)))) | (((with_reducible apply K_brkR hm); intro r hm)) | (((with_reducible apply LoopB.of); (focus (first | (dsimp only; done))); (focus ((intro _; repeat' (first | with_reducible exact impC_end | with_reducible refine impC_seq ?_ | with_reducible refine impC_block ?_ | ((with_reducible refine impC_rnd ?_); intro _) | ((with_reducible refine impC_brk ?_); intro _))))); (intro s o hm; first | unfold sc_slices_IndexFunc_interchange_api_Group_interchange_api_Group_L1 | unfold sc_slices_IndexFunc_interchange_api_Message_interchange_api_Message_L1 | unfold sc_slices_Index_string_string_L1 | unfold sc_wire_counts_L1 | unfold sc_wire_counts_L2 | unfold sc_interchangeref2_IsReference_L1); rotate_left; intro s hm)) | (((apply imp_stT; (repeat' (first | with_reducible exact keepT_nil | with_reducible exact keepC_nil | with_reducible apply keepT_cons | ((with_reducible apply svle_eq); (focus (first | (simp only [push_cast, seval]; rfl))); (focus ((repeat' (first | rfl)); done))))); done)))))
noncomputable def m_kit_IsRef (x0 : List UInt8) : Option (Bool) := (sims_G3_0_0.1 x0).1
theorem spec_kit_IsRef (x0 : List UInt8) : ∀ r, m_kit_IsRef x0 = some r → PureSpec Tryz.prog 15 [.str x0] (.bool r) := (sims_G3_0_0.1 x0).2
noncomputable def m_kit_IsName (x0 : List UInt8) : Option (Bool) := (sims_G3_0_0.2.1 x0).1
theorem spec_kit_IsName (x0 : List UInt8) : ∀ r, m_kit_IsName x0 = some r → PureSpec Tryz.prog 24 [.str x0] (.bool r) := (sims_G3_0_0.2.1 x0).2
noncomputable def m_kit_Outside (x0 : Int) (x1 : Int) (x2 : Int) : Option (Bool) := (sims_G3_0_0.2.2.1 x0 x1 x2).1
theorem spec_kit_Outside (x0 : Int) (x1 : Int) (x2 : Int) : ∀ r, m_kit_Outside x0 x1 x2 = some r → PureSpec Tryz.prog 11 [.int .i64 x0, .int .i64 x1, .int .i64 x2] (.bool r) := (sims_G3_0_0.2.2.1 x0 x1 x2).2
noncomputable def m_wire_groupFault_1 (x0 : Tapi_Group) (y0 : Tapi_Group) : Option (Bool) := (sims_G3_0_0.2.2.2.1 x0 y0).1
theorem spec_wire_groupFault_1 (x0 : Tapi_Group) (y0 : Tapi_Group) : ∀ r, m_wire_groupFault_1 x0 y0 = some r → PureSpec Tryz.prog 39 [.agg (rTapi_Group x0), .ptr (rTapi_Group y0)] (.bool r) := (sims_G3_0_0.2.2.2.1 x0 y0).2
noncomputable def m_slices_IndexFunc_interchange_api_Group_interchange_api_Group (x0 : List Tapi_Group) (f1 : FuncId) (c1 : List DV) (p1 : Tapi_Group → Option (Bool)) (h1 : ∀ a0 r, p1 a0 = some r → PureSpec Tryz.prog f1 ([.agg (rTapi_Group a0)] ++ c1) (.bool r)) : Option (Int) := (sims_G3_0_0.2.2.2.2.1 x0 f1 c1 p1 h1).1
theorem spec_slices_IndexFunc_interchange_api_Group_interchange_api_Group (x0 : List Tapi_Group) (f1 : FuncId) (c1 : List DV) (p1 : Tapi_Group → Option (Bool)) (h1 : ∀ a0 r, p1 a0 = some r → PureSpec Tryz.prog f1 ([.agg (rTapi_Group a0)] ++ c1) (.bool r)) : ∀ r, m_slices_IndexFunc_interchange_api_Group_interchange_api_Group x0 f1 c1 p1 h1 = some r → PureSpec Tryz.prog 57 [.slice (List.map rTapi_Group x0), .fn f1 c1] (.int .i64 r) := (sims_G3_0_0.2.2.2.2.1 x0 f1 c1 p1 h1).2
noncomputable def m_wire_messageFault_1 (x0 : Tapi_Message) (y0 : Tapi_Message) : Option (Bool) := (sims_G3_0_0.2.2.2.2.2.1 x0 y0).1
theorem spec_wire_messageFault_1 (x0 : Tapi_Message) (y0 : Tapi_Message) : ∀ r, m_wire_messageFault_1 x0 y0 = some r → PureSpec Tryz.prog 59 [.agg (rTapi_Message x0), .ptr (rTapi_Message y0)] (.bool r) := (sims_G3_0_0.2.2.2.2.2.1 x0 y0).2
noncomputable def m_slices_IndexFunc_interchange_api_Message_interchange_api_Message (x0 : List Tapi_Message) (f1 : FuncId) (c1 : List DV) (p1 : Tapi_Message → Option (Bool)) (h1 : ∀ a0 r, p1 a0 = some r → PureSpec Tryz.prog f1 ([.agg (rTapi_Message a0)] ++ c1) (.bool r)) : Option (Int) := (sims_G3_0_0.2.2.2.2.2.2.1 x0 f1 c1 p1 h1).1
theorem spec_slices_IndexFunc_interchange_api_Message_interchange_api_Message (x0 : List Tapi_Message) (f1 : FuncId) (c1 : List DV) (p1 : Tapi_Message → Option (Bool)) (h1 : ∀ a0 r, p1 a0 = some r → PureSpec Tryz.prog f1 ([.agg (rTapi_Message a0)] ++ c1) (.bool r)) : ∀ r, m_slices_IndexFunc_interchange_api_Message_interchange_api_Message x0 f1 c1 p1 h1 = some r → PureSpec Tryz.prog 80 [.slice (List.map rTapi_Message x0), .fn f1 c1] (.int .i64 r) := (sims_G3_0_0.2.2.2.2.2.2.1 x0 f1 c1 p1 h1).2
noncomputable def m_wire_heads : Option ((List (List UInt8))) := (sims_G3_0_0.2.2.2.2.2.2.2.1 ).1
theorem spec_wire_heads : ∀ r, m_wire_heads  = some r → PureSpec Tryz.prog 62 [] (.slice (List.map rowS r)) := (sims_G3_0_0.2.2.2.2.2.2.2.1 ).2
noncomputable def m_slices_Index_string_string (x0 : List (List UInt8)) (x1 : List UInt8) : Option (Int) := (sims_G3_0_0.2.2.2.2.2.2.2.2.1 x0 x1).1
theorem spec_slices_Index_string_string (x0 : List (List UInt8)) (x1 : List UInt8) : ∀ r, m_slices_Index_string_string x0 x1 = some r → PureSpec Tryz.prog 83 [.slice (List.map rowS x0), .str x1] (.int .i64 r) := (sims_G3_0_0.2.2.2.2.2.2.2.2.1 x0 x1).2
noncomputable def m_wire_tails : Option ((List (List UInt8))) := (sims_G3_0_0.2.2.2.2.2.2.2.2.2.1 ).1
theorem spec_wire_tails : ∀ r, m_wire_tails  = some r → PureSpec Tryz.prog 63 [] (.slice (List.map rowS r)) := (sims_G3_0_0.2.2.2.2.2.2.2.2.2.1 ).2
noncomputable def m_wire_counts (x0 : Tapi_Interchange) : Option (Int × Int) := (sims_G3_0_0.2.2.2.2.2.2.2.2.2.2.1 x0).1
theorem spec_wire_counts (x0 : Tapi_Interchange) : ∀ r, m_wire_counts x0 = some r → PureSpec Tryz.prog 27 [.agg (rTapi_Interchange x0)] (.tup [.int .i64 r.1, .int .i64 r.2]) := (sims_G3_0_0.2.2.2.2.2.2.2.2.2.2.1 x0).2
noncomputable def m_interchangeref2_IsReference (x0 : List UInt8) : Option (Bool) := (sims_G3_0_0.2.2.2.2.2.2.2.2.2.2.2 x0).1
theorem spec_interchangeref2_IsReference (x0 : List UInt8) : ∀ r, m_interchangeref2_IsReference x0 = some r → PureSpec Tryz.prog 19 [.str x0] (.bool r) := (sims_G3_0_0.2.2.2.2.2.2.2.2.2.2.2 x0).2

def sc_interchangeref2_IsName_L1 : SC :=
  (.seq (.seq (.reg [.r 6 (.mv (.t 3)),
     .r 7 (.mv (.t 0)),
     .r 8 (.lenT (.t 7)),
     .r 9 (.bin .lss (.t 6) (.t 8))])
  (.cond (.t 9)
    .skip
    (.exit 0)))
  (.seq (.block 1 (.seq (.reg [.r 12 (.mv (.t 0)),
       .r 13 (.mv (.t 3)),
       .r 14 (.sidx (.t 12) (.t 13)),
       .r 4 (.mv (.t 14))])
    (.seq (.reg (.r 15 (.mv (.t 4)) :: .r 16 (.bin .geq (.t 15) (.c (.d (.int .u8 97)))) :: .r 17 (.mv (.t 16)) :: gapp [18, 19] 17 true (.r 18 (.mv (.t 4)) :: .r 19 (.bin .leq (.t 18) (.c (.d (.int .u8 122)))) :: []) (.r 20 (.pick (.t 17) (.t 19) (.c (.d (.bool false)))) :: .r 5 (.mv (.t 20)) :: [])))
    (.seq (.reg (.r 21 (.mv (.t 5)) :: .r 22 (.not (.t 21)) :: .r 23 (.mv (.t 22)) :: gapp [24, 25, 26, 27, 28, 29, 30, 31, 32, 33, 34, 35, 36, 37, 38] 23 true (.r 24 (.mv (.t 3)) :: .r 25 (.bin .eql (.t 24) (.c (.d (.int .i64 0)))) :: .r 26 (.mv (.t 25)) :: gapp [27, 28, 29, 30, 31, 32, 33, 34, 35, 36, 37] 26 false (.r 27 (.mv (.t 4)) :: .r 28 (.bin .neq (.t 27) (.c (.d (.int .u8 45)))) :: .r 29 (.mv (.t 28)) :: gapp [30, 31, 32, 33, 34, 35, 36] 29 true (.r 30 (.mv (.t 4)) :: .r 31 (.bin .geq (.t 30) (.c (.d (.int .u8 48)))) :: .r 32 (.mv (.t 31)) :: gapp [33, 34] 32 true (.r 33 (.mv (.t 4)) :: .r 34 (.bin .leq (.t 33) (.c (.d (.int .u8 57)))) :: []) (.r 35 (.pick (.t 32) (.t 34) (.c (.d (.bool false)))) :: .r 36 (.not (.t 35)) :: [])) (.r 37 (.pick (.t 29) (.t 36) (.c (.d (.bool false)))) :: [])) (.r 38 (.pick (.t 26) (.c (.d (.bool true))) (.t 37)) :: [])) (.r 39 (.pick (.t 23) (.t 38) (.c (.d (.bool false)))) :: [])))
    (.cond (.t 39)
      (.seq (.reg [.r 2 (.mv (.c (.d (.bool false))))])
      .ret)
      .skip)))))
  (.reg [.r 10 (.mv (.t 3)),
     .r 11 (.bin .add (.t 10) (.c (.d (.int .i64 1)))),
     .r 3 (.mv (.t 11))])))
def sc_interchangeref2_IsName_B1 : SC := .block 0 (.loop sc_interchangeref2_IsName_L1)
/-- interchange/interchangeref2.IsName -/
def sc_interchangeref2_IsName : SC :=
  (.seq (.reg [.r 2 (.mv (.c (.d (.bool false))))])
  (.seq (.seq (.reg [.r 3 (.mv (.c (.d (.int .i64 0))))])
  sc_interchangeref2_IsName_B1)
  (.seq (.reg (.r 40 (.mv (.t 0)) :: .r 41 (.bin .neq (.t 40) (.c (.d (.str [])))) :: .r 42 (.mv (.t 41)) :: gapp [43, 44, 45] 42 true (.r 43 (.mv (.t 0)) :: .r 44 (.lenT (.t 43)) :: .r 45 (.bin .leq (.t 44) (.c (.d (.int .i64 40)))) :: []) (.r 46 (.pick (.t 42) (.t 45) (.c (.d (.bool false)))) :: .r 2 (.mv (.t 46)) :: [])))
  .ret)))
theorem fit_interchangeref2_IsName : fits Tryz.prog 31 Tryz.f31 sc_interchangeref2_IsName [.t 2] 1 = true := by kernel_rfl

/-- interchange/interchangeref2.levelOf -/
def sc_interchangeref2_levelOf : SC :=
  (.seq (.reg [.r 2 (.mv (.c (.d (.int .i64 0))))])
  (.seq (.seq (.reg [.r 3 (.mv (.t 0))])
  (.block 0 (.seq (.seq (.reg [.r 5 (.bin .eql (.t 3) (.c (.d (.str [73, 72, 68])))),
       .r 4 (.mv (.t 5))])
    (.cond (.t 4)
      .skip
      (.reg [.r 6 (.bin .eql (.t 3) (.c (.d (.str [73, 84, 82])))),
         .r 4 (.mv (.t 6))])))
    (.cond (.t 4)
      (.seq (.reg [.r 2 (.mv (.c (.d (.int .i64 1))))])
      .ret)
      (.seq (.seq (.reg [.r 8 (.bin .eql (.t 3) (.c (.d (.str [71, 72, 68])))),
         .r 7 (.mv (.t 8))])
      (.cond (.t 7)
        .skip
        (.reg [.r 9 (.bin .eql (.t 3) (.c (.d (.str [71, 84, 82])))),
           .r 7 (.mv (.t 9))])))
      (.cond (.t 7)
        (.seq (.reg [.r 2 (.mv (.c (.d (.int .i64 2))))])
        .ret)
        (.seq (.seq (.reg [.r 11 (.bin .eql (.t 3) (.c (.d (.str [77, 72, 68])))),
           .r 10 (.mv (.t 11))])
        (.cond (.t 10)
          .skip
          (.reg [.r 12 (.bin .eql (.t 3) (.c (.d (.str [77, 84, 82])))),
             .r 10 (.mv (.t 12))])))
        (.cond (.t 10)
          (.seq (.reg [.r 2 (.mv (.c (.d (.int .i64 3))))])
          .ret)
          .skip))))))))
  (.seq (.reg [.r 2 (.mv (.c (.d (.int .i64 0))))])
  .ret)))
theorem fit_interchangeref2_levelOf : fits Tryz.prog 88 Tryz.f88 sc_interchangeref2_levelOf [.t 2] 1 = true := by kernel_rfl

def sc_interchangeref2_SameTexts_L1 : SC :=
  (.seq (.seq (.reg [.r 11 (.mv (.t 5)),
     .r 12 (.mv (.t 0)),
     .r 13 (.len (.t 12)),
     .r 14 (.bin .lss (.t 11) (.t 13))])
  (.cond (.t 14)
    .skip
    (.exit 0)))
  (.seq (.block 1 (.seq (.regD [.r 17 (.mv (.t 0)),
       .r 18 (.mv (.t 5)),
       .r 19 (.idx 1 (.t 17) (.t 18)),
       .r 20 (.ld1 (.t 19)),
       .r 21 (.mv (.t 1)),
       .r 22 (.mv (.t 5)),
       .r 23 (.idx 1 (.t 21) (.t 22)),
       .r 24 (.ld1 (.t 23)),
       .r 25 (.bin .neq (.t 20) (.t 24))])
    (.cond (.t 25)
      (.seq (.reg [.r 4 (.mv (.c (.d (.bool false))))])
      .ret)
      .skip)))
  (.reg [.r 15 (.mv (.t 5)),
     .r 16 (.bin .add (.t 15) (.c (.d (.int .i64 1)))),
     .r 5 (.mv (.t 16))])))
def sc_interchangeref2_SameTexts_B1 : SC := .block 0 (.loop sc_interchangeref2_SameTexts_L1)
/-- interchange/interchangeref2.SameTexts -/
def sc_interchangeref2_SameTexts : SC :=
  (.seq (.reg [.r 4 (.mv (.c (.d (.bool false))))])
  (.seq (.seq (.reg [.r 6 (.mv (.t 0)),
     .r 7 (.len (.t 6)),
     .r 8 (.mv (.t 1)),
     .r 9 (.len (.t 8)),
     .r 10 (.bin .neq (.t 7) (.t 9))])
  (.cond (.t 10)
    (.seq (.reg [.r 4 (.mv (.c (.d (.bool false))))])
    .ret)
    .skip))
  (.seq (.seq (.reg [.r 5 (.mv (.c (.d (.int .i64 0))))])
  sc_interchangeref2_SameTexts_B1)
  (.seq (.reg [.r 4 (.mv (.c (.d (.bool true))))])
  .ret))))
theorem fit_interchangeref2_SameTexts : fits Tryz.prog 74 Tryz.f74 sc_interchangeref2_SameTexts [.t 4] 2 = true := by kernel_rfl

def sc_wire_CloneAll_L1 : SC :=
  (.seq (.reg [.r 10 (.bin .lss (.t 9) (.t 8))])
  (.seq (.cond (.t 10)
    .skip
    (.exit 0))
  (.seq (.block 1 (.seq (.reg [.r 11 (.mv (.t 9)),
       .r 12 (.idx 2 (.t 7) (.t 9)),
       .o 13 (.ldA 2 (.t 12)),
       .w 4 (.boxM (.c (.agg [.d (.str []), .nils]))),
       .r 3 (.mv (.t 11)),
       .w 0 (.st 2 (.t 4) (.t 13))])
    (.reg [.r 14 (.mv (.t 0)),
       .r 15 (.mv (.t 3)),
       .o 16 (.ldA 2 (.t 4)),
       .c 17 (.f 29) [.t 16],
       .r 18 (.idx 2 (.t 14) (.t 15)),
       .w 0 (.st 2 (.t 18) (.t 17))])))
  (.reg [.r 19 (.bin .add (.t 9) (.c (.d (.int .i64 1)))),
     .r 9 (.mv (.t 19))]))))
def sc_wire_CloneAll_B1 : SC := .block 0 (.loop sc_wire_CloneAll_L1)
/-- interchange/wire.CloneAll -/
def sc_wire_CloneAll : SC :=
  (.seq (.reg [.r 2 (.mv (.c (.nils)))])
  (.seq (.reg [.r 5 (.mv (.t 0)),
     .p (some 6) (.f 28) [.t 5],
     .r 0 (.mv (.t 6))])
  (.seq (.seq (.reg [.r 7 (.mv (.t 0)),
     .r 8 (.len (.t 7)),
     .r 9 (.mv (.c (.d (.int .i64 0))))])
  sc_wire_CloneAll_B1)
  (.seq (.reg [.r 20 (.mv (.t 0)),
     .r 2 (.mv (.t 20))])
  .ret))))
theorem fit_wire_CloneAll : fits Tryz.prog 14 Tryz.f14 sc_wire_CloneAll [.t 2] 1 = true := by kernel_rfl

set_option maxRecDepth 100000 in
set_option maxHeartbeats 40000000 in
noncomputable def sims_G3_0_1 : (∀ (x0 : List UInt8), {m : Option (Bool) // ∀ r, m = some r → PureSpec Tryz.prog 31 [.str x0] (.bool r)}) × (∀ (x0 : List UInt8), {m : Option (Int) // ∀ r, m = some r → PureSpec Tryz.prog 88 [.str x0] (.int .i64 r)}) × (∀ (x0 : List (List UInt8)) (x1 : List (List UInt8)), {m : Option (Bool) // ∀ r, m = some r → PureSpec Tryz.prog 74 [.slice (List.map rowS x0), .slice (List.map rowS x1)] (.bool r)}) × (∀ (x0 : List Tapi_Segment), {m : Option ((List Tapi_Segment)) // ∀ r, m = some r → PureSpec Tryz.prog 14 [.slice (List.map rTapi_Segment x0)] (.slice (List.map rTapi_Segment r))}) := by
  refine ⟨?g0, ?g1, ?g2, ?g3⟩
  case' g0 => (intro x0; apply Subtype.mk; intro r hm; apply pure_walk Tryz.func31 fit_interchangeref2_IsName; unfold sc_interchangeref2_IsName)
  case' g1 => (intro x0; apply Subtype.mk; intro r hm; apply pure_walk Tryz.func88 fit_interchangeref2_levelOf; unfold sc_interchangeref2_levelOf)
  case' g2 => (intro x0 x1; apply Subtype.mk; intro r hm; apply pure_walk Tryz.func74 fit_interchangeref2_SameTexts; unfold sc_interchangeref2_SameTexts)
  case' g3 => (intro x0; apply Subtype.mk; intro r hm; apply pure_walk Tryz.func14 fit_wire_CloneAll; unfold sc_wire_CloneAll)
  all_goals (repeat' (first | with_reducible refine W_seq ?_ | with_reducible refine W_reg ?_ | with_reducible refine W_regD ?_ | with_reducible refine W_block ?_ | with_reducible refine W_skip ?_ | with_reducible refine W_ret ?_ | with_reducible refine W_exit ?_ | with_reducible refine O_nil ?_ | with_reducible refine K_seq ?_ | with_reducible refine K_seqE ?_ | with_reducible refine K_seqR ?_ | with_reducible refine K_block ?_ | with_reducible refine K_blockR ?_ | with_reducible refine O_o2r ?_ | ((with_reducible apply O_idxr hm); (iterate 2 (simp only [push_cast, seval]; rfl)); (intro _; rfl); intro e hm) | ((with_reducible apply O_idxVr hm); (iterate 3 (simp only [push_cast, seval]; rfl)); intro e hm) | ((with_reducible apply O_sidxr hm); (iterate 2 (simp only [push_cast, seval]; rfl)); intro e hm) | ((with_reducible apply O_r); (simp only [push_cast, seval]; rfl); (first | exact trivial)) | ((with_reducible apply O_ldAVr hm); (iterate 2 (simp only [push_cast, seval]; rfl)); (intro _; rfl); intro e hm) | ((with_reducible apply O_and hm); (simp only [push_cast, seval]; rfl); rfl; intro v hm; rotate_left; intro v g hm) | ((with_reducible apply O_or hm); (simp only [push_cast, seval]; rfl); rfl; intro v hm; rotate_left; intro v g hm) | ((with_reducible apply O_cF hm); (simp only [push_cast, seval]; rfl); (first | apply spec_wire_Clone _); (any_goals ((repeat' (first | rfl)); done)); intro x hm) | ((with_reducible apply O_w); (simp only [push_cast, seval]; rfl); (first | exact trivial)) | ((with_reducible apply O_stVA hm); (iterate 4 (simp only [push_cast, seval]; rfl)); (focus ((repeat' (first | rfl)); done)); decide; (intro _; rfl); intro e hm) | ((with_reducible apply S_condB hm); (simp only [push_cast, seval]; rfl); intro hm; rotate_left; intro hm) | ((with_reducible apply K_endS hm); (focus (simp only [resOf, resL, RV.get, push_cast, seval]; rfl)); (focus ((repeat' (first | rfl)); done))) | ((with_reducible apply K_bool hm); (simp only [push_cast, seval]; rfl)) | ((with_reducible apply K_leave hm); intro r hm) | ((with_reducible apply K_leaveR hm); intro r hm) | ((apply S_loopY (b := 0) (X := sc_interchangeref2_IsName_B1) (x := sc_interchangeref2_IsName_L1) rfl (fun (c : SV) (s : Int) => st [(0, c), (3, .d (.int .i64 s))] []) (c := _) (s0 := _) hm); (focus (first | (dsimp only; done))); (with_reducible refine Then.mk ?_ ?_)) | ((apply S_loopY (b := 0) (X := sc_interchangeref2_SameTexts_B1) (x := sc_interchangeref2_SameTexts_L1) rfl (fun (c : SV × SV) (s : Int) => st [(0, c.1), (1, c.2), (5, .d (.int .i64 s))] []) (c := (_, _)) (s0 := _) hm); (focus (first | (dsimp only; done))); (with_reducible refine Then.mk ?_ ?_)) | ((apply S_loopY (b := 0) (X := sc_wire_CloneAll_B1) (x := sc_wire_CloneAll_L1) rfl (fun (c : SV) (s : (List Tapi_Segment) × Int) => st [(0, .vec 6), (7, .vec 6), (8, c), (9, .d (.int .i64 s.2))] [(6, .vec 66 2 (vrow rTapi_Segment s.1))]) (c := _) (s0 := (_, _)) hm); (focus (first | (dsimp only; done))); (with_reducible refine Then.mk ?_ ?_)) | ((apply K_next (s' := (_, _)) hm); (focus (first | (dsimp only; done)))) | ((apply K_brk (s' := (_, _)) hm); (focus (first | (dsimp only; done)))) | ((apply K_next (s' := _) hm); (focus (first | (dsimp only; done)))) | ((apply K_brk (s' := _) hm); (focus (first | (dsimp only; done)))) | (((with_reducible apply K_brkR hm); intro r hm)) | (((with_reducible apply O_pO hm); (focus (simp only [push_cast, seval]; rfl)); (first | apply spec_slices_Clone_interchange_api_Segment_interchange_api_Segment _); (any_goals (focus ((repeat' (first | rfl)); done))); (any_goals (focus (intro _; rfl))); intro y hm)) | (((with_reducible apply LoopB.of); (focus (first | (dsimp only; done))); (focus ((intro _; repeat' (first | with_reducible exact impC_end | with_reducible refine impC_seq ?_)))); (intro s o hm; first | unfold sc_interchangeref2_IsName_L1 | unfold sc_interchangeref2_SameTexts_L1 | unfold sc_wire_CloneAll_L1); rotate_left; intro s hm)) | (((apply imp_stT; (repeat' (first | with_reducible exact keepT_nil | with_reducible exact keepC_nil | with_reducible apply keepT_cons | with_reducible apply keepC_cons | ((with_reducible apply svle_eq); (focus (first | (simp only [push_cast, seval]; rfl))); (focus ((repeat' (first | rfl)); done))) | ((with_reducible apply chle_eq); (focus (first | (simp only [push_cast, seval]; rfl))); (first | with_reducible exact chle_rfl rfl)))); done)))))
noncomputable def m_interchangeref2_IsName (x0 : List UInt8) : Option (Bool) := (sims_G3_0_1.1 x0).1
theorem spec_interchangeref2_IsName (x0 : List UInt8) : ∀ r, m_interchangeref2_IsName x0 = some r → PureSpec Tryz.prog 31 [.str x0] (.bool r) := (sims_G3_0_1.1 x0).2
noncomputable def m_interchangeref2_levelOf (x0 : List UInt8) : Option (Int) := (sims_G3_0_1.2.1 x0).1
theorem spec_interchangeref2_levelOf (x0 : List UInt8) : ∀ r, m_interchangeref2_levelOf x0 = some r → PureSpec Tryz.prog 88 [.str x0] (.int .i64 r) := (sims_G3_0_1.2.1 x0).2
noncomputable def m_interchangeref2_SameTexts (x0 : List (List UInt8)) (x1 : List (List UInt8)) : Option (Bool) := (sims_G3_0_1.2.2.1 x0 x1).1
theorem spec_interchangeref2_SameTexts (x0 : List (List UInt8)) (x1 : List (List UInt8)) : ∀ r, m_interchangeref2_SameTexts x0 x1 = some r → PureSpec Tryz.prog 74 [.slice (List.map rowS x0), .slice (List.map rowS x1)] (.bool r) := (sims_G3_0_1.2.2.1 x0 x1).2
noncomputable def m_wire_CloneAll (x0 : List Tapi_Segment) : Option ((List Tapi_Segment)) := (sims_G3_0_1.2.2.2 x0).1
theorem spec_wire_CloneAll (x0 : List Tapi_Segment) : ∀ r, m_wire_CloneAll x0 = some r → PureSpec Tryz.prog 14 [.slice (List.map rTapi_Segment x0)] (.slice (List.map rTapi_Segment r)) := (sims_G3_0_1.2.2.2 x0).2

/-- interchange/kit.IsDay -/
def sc_kit_IsDay : SC :=
  (.seq (.reg [.r 2 (.mv (.c (.d (.bool false))))])
  (.seq (.reg [.r 3 (.mv (.t 0)),
     .c 4 (.f 11) [.t 3, .c (.d (.int .i64 1)), .c (.d (.int .i64 3652059))],
     .r 5 (.not (.t 4)),
     .r 2 (.mv (.t 5))])
  .ret))
theorem fit_kit_IsDay : fits Tryz.prog 25 Tryz.f25 sc_kit_IsDay [.t 2] 1 = true := by kernel_rfl

/-- slices.ContainsFunc[[]interchange/api.Group,interchange/api.Group] -/
def sc_slices_ContainsFunc_interchange_api_Group_interchange_api_Group : SC :=
  (.seq (.reg [.r 4 (.mv (.c (.d (.bool false))))])
  (.seq (.reg [.r 5 (.mv (.t 0)),
     .r 6 (.mv (.t 1)),
     .c 7 (.f 57) [.t 5, .t 6],
     .r 8 (.bin .geq (.t 7) (.c (.d (.int .i64 0)))),
     .r 4 (.mv (.t 8))])
  .ret))
theorem fit_slices_ContainsFunc_interchange_api_Group_interchange_api_Group : fits Tryz.prog 38 Tryz.f38 sc_slices_ContainsFunc_interchange_api_Group_interchange_api_Group [.t 4] 2 = true := by kernel_rfl

/-- slices.ContainsFunc[[]interchange/api.Message,interchange/api.Message] -/
def sc_slices_ContainsFunc_interchange_api_Message_interchange_api_Message : SC :=
  (.seq (.reg [.r 4 (.mv (.c (.d (.bool false))))])
  (.seq (.reg [.r 5 (.mv (.t 0)),
     .r 6 (.mv (.t 1)),
     .c 7 (.f 80) [.t 5, .t 6],
     .r 8 (.bin .geq (.t 7) (.c (.d (.int .i64 0)))),
     .r 4 (.mv (.t 8))])
  .ret))
theorem fit_slices_ContainsFunc_interchange_api_Message_interchange_api_Message : fits Tryz.prog 58 Tryz.f58 sc_slices_ContainsFunc_interchange_api_Message_interchange_api_Message [.t 4] 2 = true := by kernel_rfl

/-- slices.Contains[[]string,string] -/
def sc_slices_Contains_string_string : SC :=
  (.seq (.reg [.r 4 (.mv (.c (.d (.bool false))))])
  (.seq (.reg [.r 5 (.mv (.t 0)),
     .r 6 (.mv (.t 1)),
     .c 7 (.f 83) [.t 5, .t 6],
     .r 8 (.bin .geq (.t 7) (.c (.d (.int .i64 0)))),
     .r 4 (.mv (.t 8))])
  .ret))
theorem fit_slices_Contains_string_string : fits Tryz.prog 61 Tryz.f61 sc_slices_Contains_string_string [.t 4] 2 = true := by kernel_rfl

/-- interchange/interchangeref2.isEnvelope -/
def sc_interchangeref2_isEnvelope : SC :=
  (.seq (.reg [.r 2 (.mv (.c (.d (.bool false))))])
  (.seq (.reg [.r 3 (.mv (.t 0)),
     .c 4 (.f 88) [.t 3],
     .r 5 (.bin .gtr (.t 4) (.c (.d (.int .i64 0)))),
     .r 2 (.mv (.t 5))])
  .ret))
theorem fit_interchangeref2_isEnvelope : fits Tryz.prog 69 Tryz.f69 sc_interchangeref2_isEnvelope [.t 2] 1 = true := by kernel_rfl

def sc_interchangeref2_SameSegment_L1 : SC :=
  (.seq (.seq (.reg [.r 47 (.mv (.t 8)),
     .r 48 (.mv (.t 6)),
     .r 49 (.len (.t 48)),
     .r 50 (.bin .lss (.t 47) (.t 49))])
  (.cond (.t 50)
    .skip
    (.exit 2)))
  (.seq (.block 3 (.seq (.regD [.r 53 (.mv (.t 6)),
       .r 54 (.mv (.t 8)),
       .r 55 (.idx 1 (.t 53) (.t 54)),
       .r 56 (.ld1 (.t 55)),
       .r 57 (.mv (.t 7)),
       .r 58 (.mv (.t 8)),
       .r 59 (.idx 1 (.t 57) (.t 58)),
       .r 60 (.ld1 (.t 59)),
       .c 61 (.f 74) [.t 56, .t 60],
       .r 62 (.not (.t 61))])
    (.cond (.t 62)
      (.seq (.reg [.r 4 (.mv (.c (.d (.bool false))))])
      .ret)
      .skip)))
  (.reg [.r 51 (.mv (.t 8)),
     .r 52 (.bin .add (.t 51) (.c (.d (.int .i64 1)))),
     .r 8 (.mv (.t 52))])))
def sc_interchangeref2_SameSegment_B1 : SC := .block 2 (.loop sc_interchangeref2_SameSegment_L1)
def sc_interchangeref2_SameSegment_L2 : SC :=
  (.seq (.seq (.reg [.r 23 (.mv (.t 5)),
     .r 24 (.fld 1 (.t 2)),
     .o 25 (.ld1 (.t 24)),
     .r 26 (.len (.t 25)),
     .r 27 (.bin .lss (.t 23) (.t 26))])
  (.cond (.t 27)
    .skip
    (.exit 0)))
  (.seq (.block 1 (.seq (.regD [.r 30 (.fld 1 (.t 2)),
       .r 31 (.ld1 (.t 30)),
       .r 32 (.mv (.t 5)),
       .r 33 (.idx 1 (.t 31) (.t 32)),
       .r 34 (.fld 0 (.t 33)),
       .r 35 (.ld1 (.t 34)),
       .r 36 (.fld 1 (.t 3)),
       .r 37 (.ld1 (.t 36)),
       .r 38 (.mv (.t 5)),
       .r 39 (.idx 1 (.t 37) (.t 38)),
       .r 40 (.fld 0 (.t 39)),
       .r 41 (.ld1 (.t 40)),
       .r 6 (.mv (.t 35)),
       .r 7 (.mv (.t 41))])
    (.seq (.seq (.reg [.r 42 (.mv (.t 6)),
       .r 43 (.len (.t 42)),
       .r 44 (.mv (.t 7)),
       .r 45 (.len (.t 44)),
       .r 46 (.bin .neq (.t 43) (.t 45))])
    (.cond (.t 46)
      (.seq (.reg [.r 4 (.mv (.c (.d (.bool false))))])
      .ret)
      .skip))
    (.seq (.reg [.r 8 (.mv (.c (.d (.int .i64 0))))])
    sc_interchangeref2_SameSegment_B1))))
  (.reg [.r 28 (.mv (.t 5)),
     .r 29 (.bin .add (.t 28) (.c (.d (.int .i64 1)))),
     .r 5 (.mv (.t 29))])))
def sc_interchangeref2_SameSegment_B2 : SC := .block 0 (.loop sc_interchangeref2_SameSegment_L2)
/-- interchange/interchangeref2.SameSegment -/
def sc_interchangeref2_SameSegment : SC :=
  (.seq (.reg [.r 2 (.boxI (.t 0)),
     .r 3 (.boxI (.t 1)),
     .r 4 (.mv (.c (.d (.bool false))))])
  (.seq (.seq (.reg (.r 9 (.fld 0 (.t 2)) :: .o 10 (.ld1 (.t 9)) :: .r 11 (.fld 0 (.t 3)) :: .o 12 (.ld1 (.t 11)) :: .r 13 (.bin .neq (.t 10) (.t 12)) :: .r 14 (.mv (.t 13)) :: gapp [15, 16, 17, 18, 19, 20, 21] 14 false (.r 15 (.fld 1 (.t 2)) :: .r 16 (.ld1 (.t 15)) :: .r 17 (.len (.t 16)) :: .r 18 (.fld 1 (.t 3)) :: .r 19 (.ld1 (.t 18)) :: .r 20 (.len (.t 19)) :: .r 21 (.bin .neq (.t 17) (.t 20)) :: []) (.r 22 (.pick (.t 14) (.c (.d (.bool true))) (.t 21)) :: [])))
  (.cond (.t 22)
    (.seq (.reg [.r 4 (.mv (.c (.d (.bool false))))])
    .ret)
    .skip))
  (.seq (.seq (.reg [.r 5 (.mv (.c (.d (.int .i64 0))))])
  sc_interchangeref2_SameSegment_B2)
  (.seq (.reg [.r 4 (.mv (.c (.d (.bool true))))])
  .ret))))
theorem fit_interchangeref2_SameSegment : fits Tryz.prog 53 Tryz.f53 sc_interchangeref2_SameSegment [.t 4] 2 = true := by kernel_rfl

set_option maxRecDepth 100000 in
set_option maxHeartbeats 40000000 in
noncomputable def sims_G3_1_0 : (∀ (x0 : Int), {m : Option (Bool) // ∀ r, m = some r → PureSpec Tryz.prog 25 [.int .i64 x0] (.bool r)}) × (∀ (x0 : List Tapi_Group) (f1 : FuncId) (c1 : List DV) (p1 : Tapi_Group → Option (Bool)) (h1 : ∀ a0 r, p1 a0 = some r → PureSpec Tryz.prog f1 ([.agg (rTapi_Group a0)] ++ c1) (.bool r)), {m : Option (Bool) // ∀ r, m = some r → PureSpec Tryz.prog 38 [.slice (List.map rTapi_Group x0), .fn f1 c1] (.bool r)}) × (∀ (x0 : List Tapi_Message) (f1 : FuncId) (c1 : List DV) (p1 : Tapi_Message → Option (Bool)) (h1 : ∀ a0 r, p1 a0 = some r → PureSpec Tryz.prog f1 ([.agg (rTapi_Message a0)] ++ c1) (.bool r)), {m : Option (Bool) // ∀ r, m = some r → PureSpec Tryz.prog 58 [.slice (List.map rTapi_Message x0), .fn f1 c1] (.bool r)}) × (∀ (x0 : List (List UInt8)) (x1 : List UInt8), {m : Option (Bool) // ∀ r, m = some r → PureSpec Tryz.prog 61 [.slice (List.map rowS x0), .str x1] (.bool r)}) × (∀ (x0 : List UInt8), {m : Option (Bool) // ∀ r, m = some r → PureSpec Tryz.prog 69 [.str x0] (.bool r)}) × (∀ (x0 : Tapi_Segment) (x1 : Tapi_Segment), {m : Option (Bool) // ∀ r, m = some r → PureSpec Tryz.prog 53 [.agg (rTapi_Segment x0), .agg (rTapi_Segment x1)] (.bool r)}) := by
  refine ⟨?g0, ?g1, ?g2, ?g3, ?g4, ?g5⟩
  case' g0 => (intro x0; apply Subtype.mk; intro r hm; apply pure_walk Tryz.func25 fit_kit_IsDay; unfold sc_kit_IsDay)
  case' g1 => (intro x0 f1 c1 p1 h1; apply Subtype.mk; intro r hm; apply pure_walk Tryz.func38 fit_slices_ContainsFunc_interchange_api_Group_interchange_api_Group; unfold sc_slices_ContainsFunc_interchange_api_Group_interchange_api_Group)
  case' g2 => (intro x0 f1 c1 p1 h1; apply Subtype.mk; intro r hm; apply pure_walk Tryz.func58 fit_slices_ContainsFunc_interchange_api_Message_interchange_api_Message; unfold sc_slices_ContainsFunc_interchange_api_Message_interchange_api_Message)
  case' g3 => (intro x0 x1; apply Subtype.mk; intro r hm; apply pure_walk Tryz.func61 fit_slices_Contains_string_string; unfold sc_slices_Contains_string_string)
  case' g4 => (intro x0; apply Subtype.mk; intro r hm; apply pure_walk Tryz.func69 fit_interchangeref2_isEnvelope; unfold sc_interchangeref2_isEnvelope)
  case' g5 => (intro x0 x1; apply Subtype.mk; intro r hm; apply pure_walk Tryz.func53 fit_interchangeref2_SameSegment; unfold sc_interchangeref2_SameSegment)
  all_goals (repeat' (first | with_reducible refine W_seq ?_ | with_reducible refine W_reg ?_ | with_reducible refine W_regD ?_ | with_reducible refine W_block ?_ | with_reducible refine W_skip ?_ | with_reducible refine W_ret ?_ | with_reducible refine W_exit ?_ | with_reducible refine O_nil ?_ | with_reducible refine K_seq ?_ | with_reducible refine K_seqE ?_ | with_reducible refine K_seqR ?_ | with_reducible refine K_block ?_ | with_reducible refine K_blockR ?_ | with_reducible refine O_o2r ?_ | ((with_reducible apply O_idxr hm); (iterate 2 (simp only [push_cast, seval]; rfl)); (intro _; rfl); intro e hm) | ((with_reducible apply O_r); (simp only [push_cast, seval]; rfl); (first | exact trivial)) | ((with_reducible apply O_or hm); (simp only [push_cast, seval]; rfl); rfl; intro v hm; rotate_left; intro v g hm) | ((with_reducible apply O_cF hm); (simp only [push_cast, seval]; rfl); (first | apply spec_kit_Outside _ _ _ | apply spec_slices_IndexFunc_interchange_api_Group_interchange_api_Group _ _ _ _ h1 | apply spec_slices_IndexFunc_interchange_api_Message_interchange_api_Message _ _ _ _ h1 | apply spec_slices_Index_string_string _ _ | apply spec_interchangeref2_levelOf _ | apply spec_interchangeref2_SameTexts _ _); (any_goals ((repeat' (first | rfl)); done)); intro x hm) | ((with_reducible apply S_condB hm); (simp only [push_cast, seval]; rfl); intro hm; rotate_left; intro hm) | ((with_reducible apply K_endS hm); (focus (simp only [resOf, resL, RV.get, push_cast, seval]; rfl)); (focus ((repeat' (first | rfl)); done))) | ((with_reducible apply K_bool hm); (simp only [push_cast, seval]; rfl)) | ((with_reducible apply K_leave hm); intro r hm) | ((with_reducible apply K_leaveR hm); intro r hm) | ((apply S_loopY (b := 2) (X := sc_interchangeref2_SameSegment_B1) (x := sc_interchangeref2_SameSegment_L1) rfl (fun (c : SV × SV × SV × SV × SV) (s : Int) => st [(2, c.1), (3, c.2.1), (5, c.2.2.1), (6, c.2.2.2.1), (7, c.2.2.2.2), (8, .d (.int .i64 s))] []) (c := (_, _, _, _, _)) (s0 := _) hm); (focus (first | (dsimp only; done))); (with_reducible refine Then.mk ?_ ?_)) | ((apply S_loopY (b := 0) (X := sc_interchangeref2_SameSegment_B2) (x := sc_interchangeref2_SameSegment_L2) rfl (fun (c : SV × SV) (s : Int) => st [(2, c.1), (3, c.2), (5, .d (.int .i64 s))] []) (c := (_, _)) (s0 := _) hm); (focus (first | (dsimp only; done))); (with_reducible refine Then.mk ?_ ?_)) | ((apply K_next (s' := _) hm); (focus (first | (dsimp only; done)))) | ((apply K_brk (s' := _) hm); (focus (first | (dsimp only; done)))) | (((with_reducible apply K_brkR hm); intro r hm)) | (((with_reducible apply LoopB.of); (focus (first | (dsimp only; done))); (focus ((intro _; repeat' (first | with_reducible exact impC_end | with_reducible refine impC_seq ?_ | with_reducible refine impC_block ?_ | ((with_reducible refine impC_rnd ?_); intro _) | ((with_reducible refine impC_brk ?_); intro _))))); (intro s o hm; first | unfold sc_interchangeref2_SameSegment_L1 | unfold sc_interchangeref2_SameSegment_L2); rotate_left; intro s hm)) | (((apply imp_stT; (repeat' (first | with_reducible exact keepT_nil | with_reducible exact keepC_nil | with_reducible apply keepT_cons | ((with_reducible apply svle_eq); (focus (first | (simp only [push_cast, seval]; rfl))); (focus ((repeat' (first | rfl)); done))))); done)))))
noncomputable def m_kit_IsDay (x0 : Int) : Option (Bool) := (sims_G3_1_0.1 x0).1
theorem spec_kit_IsDay (x0 : Int) : ∀ r, m_kit_IsDay x0 = some r → PureSpec Tryz.prog 25 [.int .i64 x0] (.bool r) := (sims_G3_1_0.1 x0).2
noncomputable def m_slices_ContainsFunc_interchange_api_Group_interchange_api_Group (x0 : List Tapi_Group) (f1 : FuncId) (c1 : List DV) (p1 : Tapi_Group → Option (Bool)) (h1 : ∀ a0 r, p1 a0 = some r → PureSpec Tryz.prog f1 ([.agg (rTapi_Group a0)] ++ c1) (.bool r)) : Option (Bool) := (sims_G3_1_0.2.1 x0 f1 c1 p1 h1).1
theorem spec_slices_ContainsFunc_interchange_api_Group_interchange_api_Group (x0 : List Tapi_Group) (f1 : FuncId) (c1 : List DV) (p1 : Tapi_Group → Option (Bool)) (h1 : ∀ a0 r, p1 a0 = some r → PureSpec Tryz.prog f1 ([.agg (rTapi_Group a0)] ++ c1) (.bool r)) : ∀ r, m_slices_ContainsFunc_interchange_api_Group_interchange_api_Group x0 f1 c1 p1 h1 = some r → PureSpec Tryz.prog 38 [.slice (List.map rTapi_Group x0), .fn f1 c1] (.bool r) := (sims_G3_1_0.2.1 x0 f1 c1 p1 h1).2
noncomputable def m_slices_ContainsFunc_interchange_api_Message_interchange_api_Message (x0 : List Tapi_Message) (f1 : FuncId) (c1 : List DV) (p1 : Tapi_Message → Option (Bool)) (h1 : ∀ a0 r, p1 a0 = some r → PureSpec Tryz.prog f1 ([.agg (rTapi_Message a0)] ++ c1) (.bool r)) : Option (Bool) := (sims_G3_1_0.2.2.1 x0 f1 c1 p1 h1).1
theorem spec_slices_ContainsFunc_interchange_api_Message_interchange_api_Message (x0 : List Tapi_Message) (f1 : FuncId) (c1 : List DV) (p1 : Tapi_Message → Option (Bool)) (h1 : ∀ a0 r, p1 a0 = some r → PureSpec Tryz.prog f1 ([.agg (rTapi_Message a0)] ++ c1) (.bool r)) : ∀ r, m_slices_ContainsFunc_interchange_api_Message_interchange_api_Message x0 f1 c1 p1 h1 = some r → PureSpec Tryz.prog 58 [.slice (List.map rTapi_Message x0), .fn f1 c1] (.bool r) := (sims_G3_1_0.2.2.1 x0 f1 c1 p1 h1).2
noncomputable def m_slices_Contains_string_string (x0 : List (List UInt8)) (x1 : List UInt8) : Option (Bool) := (sims_G3_1_0.2.2.2.1 x0 x1).1
theorem spec_slices_Contains_string_string (x0 : List (List UInt8)) (x1 : List UInt8) : ∀ r, m_slices_Contains_string_string x0 x1 = some r → PureSpec Tryz.prog 61 [.slice (List.map rowS x0), .str x1] (.bool r) := (sims_G3_1_0.2.2.2.1 x0 x1).2
noncomputable def m_interchangeref2_isEnvelope (x0 : List UInt8) : Option (Bool) := (sims_G3_1_0.2.2.2.2.1 x0).1
theorem spec_interchangeref2_isEnvelope (x0 : List UInt8) : ∀ r, m_interchangeref2_isEnvelope x0 = some r → PureSpec Tryz.prog 69 [.str x0] (.bool r) := (sims_G3_1_0.2.2.2.2.1 x0).2
noncomputable def m_interchangeref2_SameSegment (x0 : Tapi_Segment) (x1 : Tapi_Segment) : Option (Bool) := (sims_G3_1_0.2.2.2.2.2 x0 x1).1
theorem spec_interchangeref2_SameSegment (x0 : Tapi_Segment) (x1 : Tapi_Segment) : ∀ r, m_interchangeref2_SameSegment x0 x1 = some r → PureSpec Tryz.prog 53 [.agg (rTapi_Segment x0), .agg (rTapi_Segment x1)] (.bool r) := (sims_G3_1_0.2.2.2.2.2 x0 x1).2

def sc_wire_messageFault_L1 : SC :=
  (.seq (.reg [.r 35 (.bin .lss (.t 34) (.t 33))])
  (.seq (.cond (.t 35)
    .skip
    (.exit 0))
  (.seq (.block 1 (.seq (.reg [.r 36 (.idx 2 (.t 32) (.t 34)),
       .o 37 (.ldA 2 (.t 36)),
       .w 7 (.boxM (.c (.agg [.d (.str []), .nils]))),
       .w 0 (.st 2 (.t 7) (.t 37))])
    (.seq (.regD (.c 38 (.f 62) [] :: .r 39 (.fld 0 (.t 7)) :: .r 40 (.ld1 (.t 39)) :: .c 41 (.f 61) [.t 38, .t 40] :: .r 42 (.mv (.t 41)) :: gapp [43, 44, 45, 46] 42 false (.c 43 (.f 63) [] :: .r 44 (.fld 0 (.t 7)) :: .r 45 (.ld1 (.t 44)) :: .c 46 (.f 61) [.t 43, .t 45] :: []) (.r 47 (.pick (.t 42) (.c (.d (.bool true))) (.t 46)) :: [])))
    (.cond (.t 47)
      (.seq (.reg [.r 4 (.mv (.c (.d (.int .i64 4))))])
      .ret)
      .skip))))
  (.reg [.r 48 (.bin .add (.t 34) (.c (.d (.int .i64 1)))),
     .r 34 (.mv (.t 48))]))))
def sc_wire_messageFault_B1 : SC := .block 0 (.loop sc_wire_messageFault_L1)
/-- interchange/wire.messageFault -/
def sc_wire_messageFault : SC :=
  (.seq (.reg [.r 2 (.boxI (.t 0)),
     .r 4 (.mv (.c (.d (.int .i64 0))))])
  (.seq (.seq (.reg [.r 8 (.fld 0 (.t 2)),
     .o 9 (.ld1 (.t 8)),
     .c 10 (.f 15) [.t 9],
     .r 11 (.not (.t 10))])
  (.cond (.t 11)
    (.seq (.reg [.r 4 (.mv (.c (.d (.int .i64 3))))])
    .ret)
    .skip))
  (.seq (.seq (.reg (.r 12 (.fld 1 (.t 2)) :: .o 13 (.ld1 (.t 12)) :: .c 14 (.f 24) [.t 13] :: .r 15 (.not (.t 14)) :: .r 16 (.mv (.t 15)) :: gapp [17, 18, 19, 20] 16 false (.r 17 (.fld 2 (.t 2)) :: .r 18 (.ld1 (.t 17)) :: .c 19 (.f 24) [.t 18] :: .r 20 (.not (.t 19)) :: []) (.r 21 (.pick (.t 16) (.c (.d (.bool true))) (.t 20)) :: [])))
  (.cond (.t 21)
    (.seq (.reg [.r 4 (.mv (.c (.d (.int .i64 5))))])
    .ret)
    .skip))
  (.seq (.seq (.reg [.r 22 (.mv (.t 1)),
     .r 23 (.mkfn 59 [.t 2]),
     .c 24 (.f 58) [.t 22, .t 23]])
  (.cond (.t 24)
    (.seq (.reg [.r 4 (.mv (.c (.d (.int .i64 7))))])
    .ret)
    .skip))
  (.seq (.seq (.reg [.r 25 (.fld 3 (.t 2)),
     .o 26 (.ld1 (.t 25)),
     .c 27 (.f 60) [.t 26],
     .r 5 (.mv (.t 27))])
  (.seq (.reg [.r 28 (.mv (.t 5)),
     .r 29 (.bin .neq (.t 28) (.c (.d (.int .i64 0))))])
  (.cond (.t 29)
    (.seq (.reg [.r 30 (.mv (.t 5)),
       .r 4 (.mv (.t 30))])
    .ret)
    .skip)))
  (.seq (.seq (.reg [.r 31 (.fld 3 (.t 2)),
     .o 32 (.ld1 (.t 31)),
     .r 33 (.len (.t 32)),
     .r 34 (.mv (.c (.d (.int .i64 0))))])
  sc_wire_messageFault_B1)
  (.seq (.reg [.r 4 (.mv (.c (.d (.int .i64 0))))])
  .ret)))))))
theorem fit_wire_messageFault : fits Tryz.prog 40 Tryz.f40 sc_wire_messageFault [.t 4] 2 = true := by kernel_rfl

def sc_interchangeref2_checkMessage_L1 : SC :=
  (.seq (.seq (.reg [.r 27 (.mv (.t 6)),
     .r 28 (.mv (.t 1)),
     .r 29 (.bin .lss (.t 27) (.t 28))])
  (.cond (.t 29)
    .skip
    (.exit 0)))
  (.seq (.block 1 (.seq (.regD [.r 32 (.mv (.t 0)),
       .r 33 (.mv (.t 6)),
       .r 34 (.idx 4 (.t 32) (.t 33)),
       .r 35 (.fld 0 (.t 34)),
       .r 36 (.ld1 (.t 35)),
       .r 37 (.fld 0 (.t 5)),
       .r 38 (.ld1 (.t 37)),
       .r 39 (.bin .eql (.t 36) (.t 38))])
    (.cond (.t 39)
      (.seq (.reg [.r 4 (.mv (.c (.d (.int .i64 7))))])
      .ret)
      .skip)))
  (.reg [.r 30 (.mv (.t 6)),
     .r 31 (.bin .add (.t 30) (.c (.d (.int .i64 1)))),
     .r 6 (.mv (.t 31))])))
def sc_interchangeref2_checkMessage_B1 : SC := .block 0 (.loop sc_interchangeref2_checkMessage_L1)
def sc_interchangeref2_checkMessage_L2 : SC :=
  (.seq (.seq (.reg [.r 46 (.mv (.t 8)),
     .r 47 (.fld 3 (.t 5)),
     .o 48 (.ld1 (.t 47)),
     .r 49 (.len (.t 48)),
     .r 50 (.bin .lss (.t 46) (.t 49))])
  (.cond (.t 50)
    .skip
    (.exit 2)))
  (.seq (.block 3 (.seq (.reg [.r 53 (.fld 3 (.t 5)),
       .o 54 (.ld1 (.t 53)),
       .r 55 (.mv (.t 8)),
       .r 56 (.idx 2 (.t 54) (.t 55)),
       .r 57 (.fld 0 (.t 56)),
       .o 58 (.ld1 (.t 57)),
       .c 59 (.f 69) [.t 58]])
    (.cond (.t 59)
      (.seq (.reg [.r 4 (.mv (.c (.d (.int .i64 4))))])
      .ret)
      .skip)))
  (.reg [.r 51 (.mv (.t 8)),
     .r 52 (.bin .add (.t 51) (.c (.d (.int .i64 1)))),
     .r 8 (.mv (.t 52))])))
def sc_interchangeref2_checkMessage_B2 : SC := .block 2 (.loop sc_interchangeref2_checkMessage_L2)
/-- interchange/interchangeref2.checkMessage -/
def sc_interchangeref2_checkMessage : SC :=
  (.seq (.reg [.r 4 (.mv (.c (.d (.int .i64 0))))])
  (.seq (.reg [.r 9 (.mv (.t 0)),
     .r 10 (.mv (.t 1)),
     .r 11 (.idx 4 (.t 9) (.t 10)),
     .o 12 (.ldA 4 (.t 11)),
     .w 5 (.boxM (.c (.agg [.d (.str []), .d (.str []), .d (.str []), .nils]))),
     .w 0 (.st 4 (.t 5) (.t 12))])
  (.seq (.seq (.reg [.r 13 (.fld 0 (.t 5)),
     .o 14 (.ld1 (.t 13)),
     .c 15 (.f 19) [.t 14],
     .r 16 (.not (.t 15))])
  (.cond (.t 16)
    (.seq (.reg [.r 4 (.mv (.c (.d (.int .i64 3))))])
    .ret)
    .skip))
  (.seq (.seq (.reg (.r 17 (.fld 1 (.t 5)) :: .o 18 (.ld1 (.t 17)) :: .c 19 (.f 31) [.t 18] :: .r 20 (.not (.t 19)) :: .r 21 (.mv (.t 20)) :: gapp [22, 23, 24, 25] 21 false (.r 22 (.fld 2 (.t 5)) :: .r 23 (.ld1 (.t 22)) :: .c 24 (.f 31) [.t 23] :: .r 25 (.not (.t 24)) :: []) (.r 26 (.pick (.t 21) (.c (.d (.bool true))) (.t 25)) :: [])))
  (.cond (.t 26)
    (.seq (.reg [.r 4 (.mv (.c (.d (.int .i64 5))))])
    .ret)
    .skip))
  (.seq (.seq (.reg [.r 6 (.mv (.c (.d (.int .i64 0))))])
  sc_interchangeref2_checkMessage_B1)
  (.seq (.seq (.reg [.r 40 (.fld 3 (.t 5)),
     .o 41 (.ld1 (.t 40)),
     .c 42 (.f 68) [.t 41],
     .r 7 (.mv (.t 42))])
  (.seq (.reg [.r 43 (.mv (.t 7)),
     .r 44 (.bin .neq (.t 43) (.c (.d (.int .i64 0))))])
  (.cond (.t 44)
    (.seq (.reg [.r 45 (.mv (.t 7)),
       .r 4 (.mv (.t 45))])
    .ret)
    .skip)))
  (.seq (.seq (.reg [.r 8 (.mv (.c (.d (.int .i64 0))))])
  sc_interchangeref2_checkMessage_B2)
  (.seq (.reg [.r 4 (.mv (.c (.d (.int .i64 0))))])
  .ret))))))))
theorem fit_interchangeref2_checkMessage : fits Tryz.prog 51 Tryz.f51 sc_interchangeref2_checkMessage [.t 4] 2 = true := by kernel_rfl

def sc_interchangeref2_SameSegments_L1 : SC :=
  (.seq (.seq (.reg [.r 11 (.mv (.t 5)),
     .r 12 (.mv (.t 0)),
     .r 13 (.len (.t 12)),
     .r 14 (.bin .lss (.t 11) (.t 13))])
  (.cond (.t 14)
    .skip
    (.exit 0)))
  (.seq (.block 1 (.seq (.regD [.r 17 (.mv (.t 0)),
       .r 18 (.mv (.t 5)),
       .r 19 (.idx 2 (.t 17) (.t 18)),
       .r 20 (.ldA 2 (.t 19)),
       .r 21 (.mv (.t 1)),
       .r 22 (.mv (.t 5)),
       .r 23 (.idx 2 (.t 21) (.t 22)),
       .r 24 (.ldA 2 (.t 23)),
       .c 25 (.f 53) [.t 20, .t 24],
       .r 26 (.not (.t 25))])
    (.cond (.t 26)
      (.seq (.reg [.r 4 (.mv (.c (.d (.bool false))))])
      .ret)
      .skip)))
  (.reg [.r 15 (.mv (.t 5)),
     .r 16 (.bin .add (.t 15) (.c (.d (.int .i64 1)))),
     .r 5 (.mv (.t 16))])))
def sc_interchangeref2_SameSegments_B1 : SC := .block 0 (.loop sc_interchangeref2_SameSegments_L1)
/-- interchange/interchangeref2.SameSegments -/
def sc_interchangeref2_SameSegments : SC :=
  (.seq (.reg [.r 4 (.mv (.c (.d (.bool false))))])
  (.seq (.seq (.reg [.r 6 (.mv (.t 0)),
     .r 7 (.len (.t 6)),
     .r 8 (.mv (.t 1)),
     .r 9 (.len (.t 8)),
     .r 10 (.bin .neq (.t 7) (.t 9))])
  (.cond (.t 10)
    (.seq (.reg [.r 4 (.mv (.c (.d (.bool false))))])
    .ret)
    .skip))
  (.seq (.seq (.reg [.r 5 (.mv (.c (.d (.int .i64 0))))])
  sc_interchangeref2_SameSegments_B1)
  (.seq (.reg [.r 4 (.mv (.c (.d (.bool true))))])
  .ret))))
theorem fit_interchangeref2_SameSegments : fits Tryz.prog 35 Tryz.f35 sc_interchangeref2_SameSegments [.t 4] 2 = true := by kernel_rfl

set_option maxRecDepth 100000 in
set_option maxHeartbeats 40000000 in
noncomputable def sims_G3_2_0 : (∀ (x0 : Tapi_Message) (x1 : List Tapi_Message), {m : Option (Int) // ∀ r, m = some r → PureSpec Tryz.prog 40 [.agg (rTapi_Message x0), .slice (List.map rTapi_Message x1)] (.int .i64 r)}) × (∀ (x0 : List Tapi_Message) (x1 : Int), {m : Option (Int) // ∀ r, m = some r → PureSpec Tryz.prog 51 [.slice (List.map rTapi_Message x0), .int .i64 x1] (.int .i64 r)}) × (∀ (x0 : List Tapi_Segment) (x1 : List Tapi_Segment), {m : Option (Bool) // ∀ r, m = some r → PureSpec Tryz.prog 35 [.slice (List.map rTapi_Segment x0), .slice (List.map rTapi_Segment x1)] (.bool r)}) := by
  refine ⟨?g0, ?g1, ?g2⟩
  case' g0 => (intro x0 x1; apply Subtype.mk; intro r hm; apply pure_walk Tryz.func40 fit_wire_messageFault; unfold sc_wire_messageFault)
  case' g1 => (intro x0 x1; apply Subtype.mk; intro r hm; apply pure_walk Tryz.func51 fit_interchangeref2_checkMessage; unfold sc_interchangeref2_checkMessage)
  case' g2 => (intro x0 x1; apply Subtype.mk; intro r hm; apply pure_walk Tryz.func35 fit_interchangeref2_SameSegments; unfold sc_interchangeref2_SameSegments)
  all_goals (repeat' (first | with_reducible refine W_seq ?_ | with_reducible refine W_reg ?_ | with_reducible refine W_regD ?_ | with_reducible refine W_block ?_ | with_reducible refine W_skip ?_ | with_reducible refine W_ret ?_ | with_reducible refine W_exit ?_ | with_reducible refine O_nil ?_ | with_reducible refine K_seq ?_ | with_reducible refine K_seqE ?_ | with_reducible refine K_seqR ?_ | with_reducible refine K_block ?_ | with_reducible refine K_blockR ?_ | with_reducible refine O_o2r ?_ | ((with_reducible apply O_idxr hm); (iterate 2 (simp only [push_cast, seval]; rfl)); (intro _; rfl); intro e hm) | ((with_reducible apply O_r); (simp only [push_cast, seval]; rfl); (first | exact trivial)) | ((with_reducible apply O_or hm); (simp only [push_cast, seval]; rfl); rfl; intro v hm; rotate_left; intro v g hm) | ((with_reducible apply O_cF hm); (simp only [push_cast, seval]; rfl); (first | apply spec_kit_IsRef _ | apply spec_kit_IsName _ | apply spec_slices_ContainsFunc_interchange_api_Message_interchange_api_Message _ _ _ _ (fun a0 r h => spec_wire_messageFault_1 a0 _ r h) | apply spec_wire_CheckSegments _ | apply spec_wire_heads | apply spec_slices_Contains_string_string _ _ | apply spec_wire_tails | apply spec_interchangeref2_IsReference _ | apply spec_interchangeref2_IsName _ | apply spec_interchangeref2_CheckSegments _ | apply spec_interchangeref2_isEnvelope _ | apply spec_interchangeref2_SameSegment _ _); (any_goals ((repeat' (first | rfl)); done)); intro x hm) | ((with_reducible apply O_w); (simp only [push_cast, seval]; rfl); (first | exact trivial)) | ((with_reducible apply S_condB hm); (simp only [push_cast, seval]; rfl); intro hm; rotate_left; intro hm) | ((with_reducible apply K_endS hm); (focus (simp only [resOf, resL, RV.get, push_cast, seval]; rfl)); (focus ((repeat' (first | rfl)); done))) | ((with_reducible apply K_bool hm); (simp only [push_cast, seval]; rfl)) | ((with_reducible apply K_leave hm); intro r hm) | ((with_reducible apply K_leaveR hm); intro r hm) | ((apply S_loopY (b := 0) (X := sc_wire_messageFault_B1) (x := sc_wire_messageFault_L1) rfl (fun (c : SV × SV) (s : Int) => st [(32, c.1), (33, c.2), (34, .d (.int .i64 s))] []) (c := (_, _)) (s0 := _) hm); (focus (first | (dsimp only; done))); (with_reducible refine Then.mk ?_ ?_)) | ((apply S_loopY (b := 0) (X := sc_interchangeref2_checkMessage_B1) (x := sc_interchangeref2_checkMessage_L1) rfl (fun (c : SV × SV × Ch) (s : Int) => st [(0, c.1), (1, c.2.1), (5, .ref 5 0), (6, .d (.int .i64 s))] [(5, c.2.2)]) (c := (_, _, _)) (s0 := _) hm); (focus (first | (dsimp only; done))); (with_reducible refine Then.mk ?_ ?_)) | ((apply S_loopY (b := 2) (X := sc_interchangeref2_checkMessage_B2) (x := sc_interchangeref2_checkMessage_L2) rfl (fun (c : Ch) (s : Int) => st [(5, .ref 5 0), (8, .d (.int .i64 s))] [(5, c)]) (c := _) (s0 := _) hm); (focus (first | (dsimp only; done))); (with_reducible refine Then.mk ?_ ?_)) | ((apply S_loopY (b := 0) (X := sc_interchangeref2_SameSegments_B1) (x := sc_interchangeref2_SameSegments_L1) rfl (fun (c : SV × SV) (s : Int) => st [(0, c.1), (1, c.2), (5, .d (.int .i64 s))] []) (c := (_, _)) (s0 := _) hm); (focus (first | (dsimp only; done))); (with_reducible refine Then.mk ?_ ?_)) | ((apply K_next (s' := _) hm); (focus (first | (dsimp only; done)))) | ((apply K_brk (s' := _) hm); (focus (first | (dsimp only; done)))) | (((with_reducible apply K_brkR hm); intro r hm)) | (((with_reducible apply LoopB.of); (focus (first | (dsimp only; done))); (focus ((intro _; repeat' (first | with_reducible exact impC_end | with_reducible refine impC_seq ?_)))); (intro s o hm; first | unfold sc_wire_messageFault_L1 | unfold sc_interchangeref2_checkMessage_L1 | unfold sc_interchangeref2_checkMessage_L2 | unfold sc_interchangeref2_SameSegments_L1); rotate_left; intro s hm)) | (((apply imp_stT; (repeat' (first | with_reducible exact keepT_nil | with_reducible exact keepC_nil | with_reducible apply keepT_cons | with_reducible apply keepC_cons | ((with_reducible apply svle_eq); (focus (first | (simp only [push_cast, seval]; rfl))); (focus ((repeat' (first | rfl)); done))) | ((with_reducible apply chle_eq); (focus (first | (simp only [push_cast, seval]; rfl))); (first | with_reducible exact chle_rfl rfl)))); done)))))
noncomputable def m_wire_messageFault (x0 : Tapi_Message) (x1 : List Tapi_Message) : Option (Int) := (sims_G3_2_0.1 x0 x1).1
theorem spec_wire_messageFault (x0 : Tapi_Message) (x1 : List Tapi_Message) : ∀ r, m_wire_messageFault x0 x1 = some r → PureSpec Tryz.prog 40 [.agg (rTapi_Message x0), .slice (List.map rTapi_Message x1)] (.int .i64 r) := (sims_G3_2_0.1 x0 x1).2
noncomputable def m_interchangeref2_checkMessage (x0 : List Tapi_Message) (x1 : Int) : Option (Int) := (sims_G3_2_0.2.1 x0 x1).1
theorem spec_interchangeref2_checkMessage (x0 : List Tapi_Message) (x1 : Int) : ∀ r, m_interchangeref2_checkMessage x0 x1 = some r → PureSpec Tryz.prog 51 [.slice (List.map rTapi_Message x0), .int .i64 x1] (.int .i64 r) := (sims_G3_2_0.2.1 x0 x1).2
noncomputable def m_interchangeref2_SameSegments (x0 : List Tapi_Segment) (x1 : List Tapi_Segment) : Option (Bool) := (sims_G3_2_0.2.2 x0 x1).1
theorem spec_interchangeref2_SameSegments (x0 : List Tapi_Segment) (x1 : List Tapi_Segment) : ∀ r, m_interchangeref2_SameSegments x0 x1 = some r → PureSpec Tryz.prog 35 [.slice (List.map rTapi_Segment x0), .slice (List.map rTapi_Segment x1)] (.bool r) := (sims_G3_2_0.2.2 x0 x1).2

def sc_wire_groupFault_L1 : SC :=
  (.seq (.reg [.r 23 (.bin .lss (.t 22) (.t 21))])
  (.seq (.cond (.t 23)
    .skip
    (.exit 0))
  (.seq (.block 1 (.seq (.reg [.r 24 (.mv (.t 22)),
       .r 25 (.idx 4 (.t 20) (.t 22)),
       .o 26 (.ldA 4 (.t 25)),
       .w 6 (.boxM (.c (.agg [.d (.str []), .d (.str []), .d (.str []), .nils]))),
       .r 5 (.mv (.t 24)),
       .w 0 (.st 4 (.t 6) (.t 26))])
    (.seq (.regD [.r 27 (.ldA 4 (.t 6)),
       .r 28 (.fld 2 (.t 2)),
       .r 29 (.ld1 (.t 28)),
       .r 30 (.mv (.t 5)),
       .r 31 (.slc 4 (.t 29) none (some (.t 30))),
       .c 32 (.f 40) [.t 27, .t 31],
       .r 7 (.mv (.t 32))])
    (.seq (.reg [.r 33 (.mv (.t 7)),
       .r 34 (.bin .neq (.t 33) (.c (.d (.int .i64 0))))])
    (.cond (.t 34)
      (.seq (.reg [.r 35 (.mv (.t 7)),
         .r 4 (.mv (.t 35))])
      .ret)
      .skip)))))
  (.reg [.r 36 (.bin .add (.t 22) (.c (.d (.int .i64 1)))),
     .r 22 (.mv (.t 36))]))))
def sc_wire_groupFault_B1 : SC := .block 0 (.loop sc_wire_groupFault_L1)
/-- interchange/wire.groupFault -/
def sc_wire_groupFault : SC :=
  (.seq (.reg [.r 2 (.boxI (.t 0)),
     .r 4 (.mv (.c (.d (.int .i64 0))))])
  (.seq (.seq (.reg [.r 8 (.fld 0 (.t 2)),
     .o 9 (.ld1 (.t 8)),
     .c 10 (.f 15) [.t 9],
     .r 11 (.not (.t 10))])
  (.cond (.t 11)
    (.seq (.reg [.r 4 (.mv (.c (.d (.int .i64 3))))])
    .ret)
    .skip))
  (.seq (.seq (.reg [.r 12 (.fld 1 (.t 2)),
     .o 13 (.ld1 (.t 12)),
     .c 14 (.f 24) [.t 13],
     .r 15 (.not (.t 14))])
  (.cond (.t 15)
    (.seq (.reg [.r 4 (.mv (.c (.d (.int .i64 5))))])
    .ret)
    .skip))
  (.seq (.seq (.reg [.r 16 (.mv (.t 1)),
     .r 17 (.mkfn 39 [.t 2]),
     .c 18 (.f 38) [.t 16, .t 17]])
  (.cond (.t 18)
    (.seq (.reg [.r 4 (.mv (.c (.d (.int .i64 7))))])
    .ret)
    .skip))
  (.seq (.seq (.reg [.r 19 (.fld 2 (.t 2)),
     .o 20 (.ld1 (.t 19)),
     .r 21 (.len (.t 20)),
     .r 22 (.mv (.c (.d (.int .i64 0))))])
  sc_wire_groupFault_B1)
  (.seq (.reg [.r 4 (.mv (.c (.d (.int .i64 0))))])
  .ret))))))
theorem fit_wire_groupFault : fits Tryz.prog 26 Tryz.f26 sc_wire_groupFault [.t 4] 2 = true := by kernel_rfl

def sc_interchangeref2_checkGroup_L1 : SC :=
  (.seq (.seq (.reg [.r 22 (.mv (.t 5)),
     .r 23 (.mv (.t 1)),
     .r 24 (.bin .lss (.t 22) (.t 23))])
  (.cond (.t 24)
    .skip
    (.exit 0)))
  (.seq (.block 1 (.seq (.regD [.r 27 (.mv (.t 0)),
       .r 28 (.mv (.t 5)),
       .r 29 (.idx 3 (.t 27) (.t 28)),
       .r 30 (.fld 0 (.t 29)),
       .r 31 (.ld1 (.t 30)),
       .r 32 (.mv (.t 0)),
       .r 33 (.mv (.t 1)),
       .r 34 (.idx 3 (.t 32) (.t 33)),
       .r 35 (.fld 0 (.t 34)),
       .r 36 (.ld1 (.t 35)),
       .r 37 (.bin .eql (.t 31) (.t 36))])
    (.cond (.t 37)
      (.seq (.reg [.r 4 (.mv (.c (.d (.int .i64 7))))])
      .ret)
      .skip)))
  (.reg [.r 25 (.mv (.t 5)),
     .r 26 (.bin .add (.t 25) (.c (.d (.int .i64 1)))),
     .r 5 (.mv (.t 26))])))
def sc_interchangeref2_checkGroup_B1 : SC := .block 0 (.loop sc_interchangeref2_checkGroup_L1)
def sc_interchangeref2_checkGroup_L2 : SC :=
  (.seq (.seq (.reg [.r 38 (.mv (.t 6)),
     .r 39 (.mv (.t 0)),
     .r 40 (.mv (.t 1)),
     .r 41 (.idx 3 (.t 39) (.t 40)),
     .r 42 (.fld 2 (.t 41)),
     .o 43 (.ld1 (.t 42)),
     .r 44 (.len (.t 43)),
     .r 45 (.bin .lss (.t 38) (.t 44))])
  (.cond (.t 45)
    .skip
    (.exit 2)))
  (.seq (.block 3 (.seq (.reg [.r 48 (.mv (.t 0)),
       .r 49 (.mv (.t 1)),
       .r 50 (.idx 3 (.t 48) (.t 49)),
       .r 51 (.fld 2 (.t 50)),
       .o 52 (.ld1 (.t 51)),
       .r 53 (.mv (.t 6)),
       .c 54 (.f 51) [.t 52, .t 53],
       .r 7 (.mv (.t 54))])
    (.seq (.reg [.r 55 (.mv (.t 7)),
       .r 56 (.bin .neq (.t 55) (.c (.d (.int .i64 0))))])
    (.cond (.t 56)
      (.seq (.reg [.r 57 (.mv (.t 7)),
         .r 4 (.mv (.t 57))])
      .ret)
      .skip))))
  (.reg [.r 46 (.mv (.t 6)),
     .r 47 (.bin .add (.t 46) (.c (.d (.int .i64 1)))),
     .r 6 (.mv (.t 47))])))
def sc_interchangeref2_checkGroup_B2 : SC := .block 2 (.loop sc_interchangeref2_checkGroup_L2)
/-- interchange/interchangeref2.checkGroup -/
def sc_interchangeref2_checkGroup : SC :=
  (.seq (.reg [.r 4 (.mv (.c (.d (.int .i64 0))))])
  (.seq (.seq (.reg [.r 8 (.mv (.t 0)),
     .r 9 (.mv (.t 1)),
     .r 10 (.idx 3 (.t 8) (.t 9)),
     .r 11 (.fld 0 (.t 10)),
     .o 12 (.ld1 (.t 11)),
     .c 13 (.f 19) [.t 12],
     .r 14 (.not (.t 13))])
  (.cond (.t 14)
    (.seq (.reg [.r 4 (.mv (.c (.d (.int .i64 3))))])
    .ret)
    .skip))
  (.seq (.seq (.reg [.r 15 (.mv (.t 0)),
     .r 16 (.mv (.t 1)),
     .r 17 (.idx 3 (.t 15) (.t 16)),
     .r 18 (.fld 1 (.t 17)),
     .o 19 (.ld1 (.t 18)),
     .c 20 (.f 31) [.t 19],
     .r 21 (.not (.t 20))])
  (.cond (.t 21)
    (.seq (.reg [.r 4 (.mv (.c (.d (.int .i64 5))))])
    .ret)
    .skip))
  (.seq (.seq (.reg [.r 5 (.mv (.c (.d (.int .i64 0))))])
  sc_interchangeref2_checkGroup_B1)
  (.seq (.seq (.reg [.r 6 (.mv (.c (.d (.int .i64 0))))])
  sc_interchangeref2_checkGroup_B2)
  (.seq (.reg [.r 4 (.mv (.c (.d (.int .i64 0))))])
  .ret))))))
theorem fit_interchangeref2_checkGroup : fits Tryz.prog 32 Tryz.f32 sc_interchangeref2_checkGroup [.t 4] 2 = true := by kernel_rfl

def sc_interchangeref2_sameMessages_L1 : SC :=
  (.seq (.seq (.reg [.r 11 (.mv (.t 5)),
     .r 12 (.mv (.t 0)),
     .r 13 (.len (.t 12)),
     .r 14 (.bin .lss (.t 11) (.t 13))])
  (.cond (.t 14)
    .skip
    (.exit 0)))
  (.seq (.block 1 (.seq (.regD (.r 17 (.mv (.t 0)) :: .r 18 (.mv (.t 5)) :: .r 19 (.idx 4 (.t 17) (.t 18)) :: .r 20 (.fld 0 (.t 19)) :: .r 21 (.ld1 (.t 20)) :: .r 22 (.mv (.t 1)) :: .r 23 (.mv (.t 5)) :: .r 24 (.idx 4 (.t 22) (.t 23)) :: .r 25 (.fld 0 (.t 24)) :: .r 26 (.ld1 (.t 25)) :: .r 27 (.bin .neq (.t 21) (.t 26)) :: .r 28 (.mv (.t 27)) :: gapp [29, 30, 31, 32, 33, 34, 35, 36, 37, 38, 39] 28 false (.r 29 (.mv (.t 0)) :: .r 30 (.mv (.t 5)) :: .r 31 (.idx 4 (.t 29) (.t 30)) :: .r 32 (.fld 1 (.t 31)) :: .r 33 (.ld1 (.t 32)) :: .r 34 (.mv (.t 1)) :: .r 35 (.mv (.t 5)) :: .r 36 (.idx 4 (.t 34) (.t 35)) :: .r 37 (.fld 1 (.t 36)) :: .r 38 (.ld1 (.t 37)) :: .r 39 (.bin .neq (.t 33) (.t 38)) :: []) (.r 40 (.pick (.t 28) (.c (.d (.bool true))) (.t 39)) :: .r 41 (.mv (.t 40)) :: gapp [42, 43, 44, 45, 46, 47, 48, 49, 50, 51, 52] 41 false (.r 42 (.mv (.t 0)) :: .r 43 (.mv (.t 5)) :: .r 44 (.idx 4 (.t 42) (.t 43)) :: .r 45 (.fld 2 (.t 44)) :: .r 46 (.ld1 (.t 45)) :: .r 47 (.mv (.t 1)) :: .r 48 (.mv (.t 5)) :: .r 49 (.idx 4 (.t 47) (.t 48)) :: .r 50 (.fld 2 (.t 49)) :: .r 51 (.ld1 (.t 50)) :: .r 52 (.bin .neq (.t 46) (.t 51)) :: []) (.r 53 (.pick (.t 41) (.c (.d (.bool true))) (.t 52)) :: .r 54 (.mv (.t 53)) :: gapp [55, 56, 57, 58, 59, 60, 61, 62, 63, 64, 65, 66] 54 false (.r 55 (.mv (.t 0)) :: .r 56 (.mv (.t 5)) :: .r 57 (.idx 4 (.t 55) (.t 56)) :: .r 58 (.fld 3 (.t 57)) :: .r 59 (.ld1 (.t 58)) :: .r 60 (.mv (.t 1)) :: .r 61 (.mv (.t 5)) :: .r 62 (.idx 4 (.t 60) (.t 61)) :: .r 63 (.fld 3 (.t 62)) :: .r 64 (.ld1 (.t 63)) :: .c 65 (.f 35) [.t 59, .t 64] :: .r 66 (.not (.t 65)) :: []) (.r 67 (.pick (.t 54) (.c (.d (.bool true))) (.t 66)) :: [])))))
    (.cond (.t 67)
      (.seq (.reg [.r 4 (.mv (.c (.d (.bool false))))])
      .ret)
      .skip)))
  (.reg [.r 15 (.mv (.t 5)),
     .r 16 (.bin .add (.t 15) (.c (.d (.int .i64 1)))),
     .r 5 (.mv (.t 16))])))
def sc_interchangeref2_sameMessages_B1 : SC := .block 0 (.loop sc_interchangeref2_sameMessages_L1)
/-- interchange/interchangeref2.sameMessages -/
def sc_interchangeref2_sameMessages : SC :=
  (.seq (.reg [.r 4 (.mv (.c (.d (.bool false))))])
  (.seq (.seq (.reg [.r 6 (.mv (.t 0)),
     .r 7 (.len (.t 6)),
     .r 8 (.mv (.t 1)),
     .r 9 (.len (.t 8)),
     .r 10 (.bin .neq (.t 7) (.t 9))])
  (.cond (.t 10)
    (.seq (.reg [.r 4 (.mv (.c (.d (.bool false))))])
    .ret)
    .skip))
  (.seq (.seq (.reg [.r 5 (.mv (.c (.d (.int .i64 0))))])
  sc_interchangeref2_sameMessages_B1)
  (.seq (.reg [.r 4 (.mv (.c (.d (.bool true))))])
  .ret))))
theorem fit_interchangeref2_sameMessages : fits Tryz.prog 20 Tryz.f20 sc_interchangeref2_sameMessages [.t 4] 2 = true := by kernel_rfl

set_option maxRecDepth 100000 in
set_option maxHeartbeats 40000000 in
noncomputable def sims_G3_3_0 : (∀ (x0 : Tapi_Group) (x1 : List Tapi_Group), {m : Option (Int) // ∀ r, m = some r → PureSpec Tryz.prog 26 [.agg (rTapi_Group x0), .slice (List.map rTapi_Group x1)] (.int .i64 r)}) × (∀ (x0 : List Tapi_Group) (x1 : Int), {m : Option (Int) // ∀ r, m = some r → PureSpec Tryz.prog 32 [.slice (List.map rTapi_Group x0), .int .i64 x1] (.int .i64 r)}) × (∀ (x0 : List Tapi_Message) (x1 : List Tapi_Message), {m : Option (Bool) // ∀ r, m = some r → PureSpec Tryz.prog 20 [.slice (List.map rTapi_Message x0), .slice (List.map rTapi_Message x1)] (.bool r)}) := by
  refine ⟨?g0, ?g1, ?g2⟩
  case' g0 => (intro x0 x1; apply Subtype.mk; intro r hm; apply pure_walk Tryz.func26 fit_wire_groupFault; unfold sc_wire_groupFault)
  case' g1 => (intro x0 x1; apply Subtype.mk; intro r hm; apply pure_walk Tryz.func32 fit_interchangeref2_checkGroup; unfold sc_interchangeref2_checkGroup)
  case' g2 => (intro x0 x1; apply Subtype.mk; intro r hm; apply pure_walk Tryz.func20 fit_interchangeref2_sameMessages; unfold sc_interchangeref2_sameMessages)
  all_goals (repeat' (first | with_reducible refine W_seq ?_ | with_reducible refine W_reg ?_ | with_reducible refine W_regD ?_ | with_reducible refine W_block ?_ | with_reducible refine W_skip ?_ | with_reducible refine W_ret ?_ | with_reducible refine W_exit ?_ | with_reducible refine O_nil ?_ | with_reducible refine K_seq ?_ | with_reducible refine K_seqE ?_ | with_reducible refine K_seqR ?_ | with_reducible refine K_block ?_ | with_reducible refine K_blockR ?_ | with_reducible refine O_o2r ?_ | ((with_reducible apply O_idxr hm); (iterate 2 (simp only [push_cast, seval]; rfl)); (intro _; rfl); intro e hm) | ((with_reducible apply O_slcr hm); (iterate 3 (simp only [push_cast, seval]; rfl)); (intro _; rfl); intro e hm) | ((with_reducible apply O_r); (simp only [push_cast, seval]; rfl); (first | exact trivial)) | ((with_reducible apply O_or hm); (simp only [push_cast, seval]; rfl); rfl; intro v hm; rotate_left; intro v g hm) | ((with_reducible apply O_cF hm); (simp only [push_cast, seval]; rfl); (first | apply spec_kit_IsRef _ | apply spec_kit_IsName _ | apply spec_slices_ContainsFunc_interchange_api_Group_interchange_api_Group _ _ _ _ (fun a0 r h => spec_wire_groupFault_1 a0 _ r h) | apply spec_wire_messageFault _ _ | apply spec_interchangeref2_IsReference _ | apply spec_interchangeref2_IsName _ | apply spec_interchangeref2_checkMessage _ _ | apply spec_interchangeref2_SameSegments _ _); (any_goals ((repeat' (first | rfl)); done)); intro x hm) | ((with_reducible apply O_w); (simp only [push_cast, seval]; rfl); (first | exact trivial)) | ((with_reducible apply S_condB hm); (simp only [push_cast, seval]; rfl); intro hm; rotate_left; intro hm) | ((with_reducible apply K_endS hm); (focus (simp only [resOf, resL, RV.get, push_cast, seval]; rfl)); (focus ((repeat' (first | rfl)); done))) | ((with_reducible apply K_bool hm); (simp only [push_cast, seval]; rfl)) | ((with_reducible apply K_leave hm); intro r hm) | ((with_reducible apply K_leaveR hm); intro r hm) | ((apply S_loopY (b := 0) (X := sc_wire_groupFault_B1) (x := sc_wire_groupFault_L1) rfl (fun (c : SV × SV × SV) (s : Int) => st [(2, c.1), (20, c.2.1), (21, c.2.2), (22, .d (.int .i64 s))] []) (c := (_, _, _)) (s0 := _) hm); (focus (first | (dsimp only; done))); (with_reducible refine Then.mk ?_ ?_)) | ((apply S_loopY (b := 0) (X := sc_interchangeref2_checkGroup_B1) (x := sc_interchangeref2_checkGroup_L1) rfl (fun (c : SV × SV) (s : Int) => st [(0, c.1), (1, c.2), (5, .d (.int .i64 s))] []) (c := (_, _)) (s0 := _) hm); (focus (first | (dsimp only; done))); (with_reducible refine Then.mk ?_ ?_)) | ((apply S_loopY (b := 2) (X := sc_interchangeref2_checkGroup_B2) (x := sc_interchangeref2_checkGroup_L2) rfl (fun (c : SV × SV) (s : Int) => st [(0, c.1), (1, c.2), (6, .d (.int .i64 s))] []) (c := (_, _)) (s0 := _) hm); (focus (first | (dsimp only; done))); (with_reducible refine Then.mk ?_ ?_)) | ((apply S_loopY (b := 0) (X := sc_interchangeref2_sameMessages_B1) (x := sc_interchangeref2_sameMessages_L1) rfl (fun (c : SV × SV) (s : Int) => st [(0, c.1), (1, c.2), (5, .d (.int .i64 s))] []) (c := (_, _)) (s0 := _) hm); (focus (first | (dsimp only; done))); (with_reducible refine Then.mk ?_ ?_)) | ((apply K_next (s' := _) hm); (focus (first | (dsimp only; done)))) | ((apply K_brk (s' := _) hm); (focus (first | (dsimp only; done)))) | (((with_reducible apply K_brkR hm); intro r hm)) | (((with_reducible apply LoopB.of); (focus (first | (dsimp only; done))); (focus ((intro _; repeat' (first | with_reducible exact impC_end | with_reducible refine impC_seq ?_)))); (intro s o hm; first | unfold sc_wire_groupFault_L1 | unfold sc_interchangeref2_checkGroup_L1 | unfold sc_interchangeref2_checkGroup_L2 | unfold sc_interchangeref2_sameMessages_L1); rotate_left; intro s hm)) | (((apply imp_stT; (repeat' (first | with_reducible exact keepT_nil | with_reducible exact keepC_nil | with_reducible apply keepT_cons | ((with_reducible apply svle_eq); (focus (first | (simp only [push_cast, seval]; rfl))); (focus ((repeat' (first | rfl)); done))))); done)))))
noncomputable def m_wire_groupFault (x0 : Tapi_Group) (x1 : List Tapi_Group) : Option (Int) := (sims_G3_3_0.1 x0 x1).1
theorem spec_wire_groupFault (x0 : Tapi_Group) (x1 : List Tapi_Group) : ∀ r, m_wire_groupFault x0 x1 = some r → PureSpec Tryz.prog 26 [.agg (rTapi_Group x0), .slice (List.map rTapi_Group x1)] (.int .i64 r) := (sims_G3_3_0.1 x0 x1).2
noncomputable def m_interchangeref2_checkGroup (x0 : List Tapi_Group) (x1 : Int) : Option (Int) := (sims_G3_3_0.2.1 x0 x1).1
theorem spec_interchangeref2_checkGroup (x0 : List Tapi_Group) (x1 : Int) : ∀ r, m_interchangeref2_checkGroup x0 x1 = some r → PureSpec Tryz.prog 32 [.slice (List.map rTapi_Group x0), .int .i64 x1] (.int .i64 r) := (sims_G3_3_0.2.1 x0 x1).2
noncomputable def m_interchangeref2_sameMessages (x0 : List Tapi_Message) (x1 : List Tapi_Message) : Option (Bool) := (sims_G3_3_0.2.2 x0 x1).1
theorem spec_interchangeref2_sameMessages (x0 : List Tapi_Message) (x1 : List Tapi_Message) : ∀ r, m_interchangeref2_sameMessages x0 x1 = some r → PureSpec Tryz.prog 20 [.slice (List.map rTapi_Message x0), .slice (List.map rTapi_Message x1)] (.bool r) := (sims_G3_3_0.2.2 x0 x1).2

def sc_wire_CheckInterchange_L1 : SC :=
  (.seq (.reg [.r 43 (.bin .lss (.t 42) (.t 41))])
  (.seq (.cond (.t 43)
    .skip
    (.exit 1))
  (.seq (.block 2 (.seq (.reg [.r 44 (.mv (.t 42)),
       .r 45 (.idx 3 (.t 40) (.t 42)),
       .o 46 (.ldA 3 (.t 45)),
       .w 4 (.boxM (.c (.agg [.d (.str []), .d (.str []), .nils]))),
       .r 3 (.mv (.t 44)),
       .w 0 (.st 3 (.t 4) (.t 46))])
    (.seq (.regD [.r 47 (.ldA 3 (.t 4)),
       .r 48 (.fld 6 (.t 1)),
       .r 49 (.ld1 (.t 48)),
       .r 50 (.mv (.t 3)),
       .r 51 (.slc 3 (.t 49) none (some (.t 50))),
       .c 52 (.f 26) [.t 47, .t 51],
       .r 5 (.mv (.t 52))])
    (.seq (.reg [.r 53 (.mv (.t 5)),
       .r 54 (.bin .neq (.t 53) (.c (.d (.int .i64 0))))])
    (.cond (.t 54)
      (.seq (.reg [.r 55 (.mv (.t 5)),
         .r 2 (.mv (.t 55))])
      .ret)
      .skip)))))
  (.reg [.r 56 (.bin .add (.t 42) (.c (.d (.int .i64 1)))),
     .r 42 (.mv (.t 56))]))))
def sc_wire_CheckInterchange_B1 : SC := .block 1 (.loop sc_wire_CheckInterchange_L1)
/-- interchange/wire.CheckInterchange -/
def sc_wire_CheckInterchange : SC :=
  (.seq (.reg [.r 1 (.boxI (.t 0)),
     .r 2 (.mv (.c (.d (.int .i64 0))))])
  (.seq (.block 0 (.seq (.reg [.r 9 (.fld 0 (.t 1)),
       .o 10 (.ld1 (.t 9)),
       .c 11 (.f 15) [.t 10],
       .r 12 (.not (.t 11)),
       .r 8 (.mv (.t 12))])
    (.cond (.t 8)
      (.seq (.reg [.r 2 (.mv (.c (.d (.int .i64 3))))])
      .ret)
      (.seq (.reg (.r 14 (.fld 1 (.t 1)) :: .o 15 (.ld1 (.t 14)) :: .c 16 (.f 24) [.t 15] :: .r 17 (.not (.t 16)) :: .r 18 (.mv (.t 17)) :: gapp [19, 20, 21, 22] 18 false (.r 19 (.fld 2 (.t 1)) :: .r 20 (.ld1 (.t 19)) :: .c 21 (.f 24) [.t 20] :: .r 22 (.not (.t 21)) :: []) (.r 23 (.pick (.t 18) (.c (.d (.bool true))) (.t 22)) :: .r 13 (.mv (.t 23)) :: [])))
      (.cond (.t 13)
        (.seq (.reg [.r 2 (.mv (.c (.d (.int .i64 5))))])
        .ret)
        (.seq (.reg (.r 25 (.fld 3 (.t 1)) :: .o 26 (.ld1 (.t 25)) :: .c 27 (.f 25) [.t 26] :: .r 28 (.not (.t 27)) :: .r 29 (.mv (.t 28)) :: gapp [30, 31, 32] 29 false (.r 30 (.fld 4 (.t 1)) :: .r 31 (.ld1 (.t 30)) :: .c 32 (.f 11) [.t 31, .c (.d (.int .i64 0)), .c (.d (.int .i64 86399))] :: []) (.r 33 (.pick (.t 29) (.c (.d (.bool true))) (.t 32)) :: .r 24 (.mv (.t 33)) :: [])))
        (.cond (.t 24)
          (.seq (.reg [.r 2 (.mv (.c (.d (.int .i64 1))))])
          .ret)
          (.seq (.reg [.r 35 (.fld 6 (.t 1)),
             .o 36 (.ld1 (.t 35)),
             .r 37 (.len (.t 36)),
             .r 38 (.bin .gtr (.t 37) (.c (.d (.int .i64 50)))),
             .r 34 (.mv (.t 38))])
          (.cond (.t 34)
            (.seq (.reg [.r 2 (.mv (.c (.d (.int .i64 2))))])
            .ret)
            .skip)))))))))
  (.seq (.seq (.reg [.r 39 (.fld 6 (.t 1)),
     .o 40 (.ld1 (.t 39)),
     .r 41 (.len (.t 40)),
     .r 42 (.mv (.c (.d (.int .i64 0))))])
  sc_wire_CheckInterchange_B1)
  (.seq (.seq (.reg [.o 58 (.ldA 7 (.t 1)),
     .c 59 (.f 27) [.t 58],
     .r 57 (.mv (.t 59)),
     .r 60 (.ext (.t 57) 0),
     .r 61 (.ext (.t 57) 1),
     .r 6 (.mv (.t 60)),
     .r 7 (.mv (.t 61))])
  (.seq (.reg (.r 62 (.mv (.t 6)) :: .r 63 (.bin .gtr (.t 62) (.c (.d (.int .i64 200)))) :: .r 64 (.mv (.t 63)) :: gapp [65, 66] 64 false (.r 65 (.mv (.t 7)) :: .r 66 (.bin .gtr (.t 65) (.c (.d (.int .i64 2000)))) :: []) (.r 67 (.pick (.t 64) (.c (.d (.bool true))) (.t 66)) :: [])))
  (.cond (.t 67)
    (.seq (.reg [.r 2 (.mv (.c (.d (.int .i64 2))))])
    .ret)
    .skip)))
  (.seq (.reg [.r 2 (.mv (.c (.d (.int .i64 0))))])
  .ret)))))
theorem fit_wire_CheckInterchange : fits Tryz.prog 10 Tryz.f10 sc_wire_CheckInterchange [.t 2] 1 = true := by kernel_rfl

def sc_interchangeref2_CheckInterchange_L1 : SC :=
  (.seq (.seq (.reg [.r 69 (.mv (.t 7)),
     .r 70 (.fld 6 (.t 1)),
     .o 71 (.ld1 (.t 70)),
     .r 72 (.mv (.t 5)),
     .r 73 (.idx 3 (.t 71) (.t 72)),
     .r 74 (.fld 2 (.t 73)),
     .o 75 (.ld1 (.t 74)),
     .r 76 (.len (.t 75)),
     .r 77 (.bin .lss (.t 69) (.t 76))])
  (.cond (.t 77)
    .skip
    (.exit 2)))
  (.seq (.block 3 (.reg [.r 80 (.mv (.t 4)),
       .r 81 (.fld 6 (.t 1)),
       .o 82 (.ld1 (.t 81)),
       .r 83 (.mv (.t 5)),
       .r 84 (.idx 3 (.t 82) (.t 83)),
       .r 85 (.fld 2 (.t 84)),
       .o 86 (.ld1 (.t 85)),
       .r 87 (.mv (.t 7)),
       .r 88 (.idx 4 (.t 86) (.t 87)),
       .r 89 (.fld 3 (.t 88)),
       .o 90 (.ld1 (.t 89)),
       .r 91 (.len (.t 90)),
       .r 92 (.bin .add (.c (.d (.int .i64 2))) (.t 91)),
       .r 93 (.bin .add (.t 80) (.t 92)),
       .r 4 (.mv (.t 93))]))
  (.reg [.r 78 (.mv (.t 7)),
     .r 79 (.bin .add (.t 78) (.c (.d (.int .i64 1)))),
     .r 7 (.mv (.t 79))])))
def sc_interchangeref2_CheckInterchange_B1 : SC := .block 2 (.loop sc_interchangeref2_CheckInterchange_L1)
def sc_interchangeref2_CheckInterchange_L2 : SC :=
  (.seq (.seq (.reg [.r 44 (.mv (.t 5)),
     .r 45 (.fld 6 (.t 1)),
     .o 46 (.ld1 (.t 45)),
     .r 47 (.len (.t 46)),
     .r 48 (.bin .lss (.t 44) (.t 47))])
  (.cond (.t 48)
    .skip
    (.exit 0)))
  (.seq (.block 1 (.seq (.seq (.reg [.r 51 (.fld 6 (.t 1)),
       .o 52 (.ld1 (.t 51)),
       .r 53 (.mv (.t 5)),
       .c 54 (.f 32) [.t 52, .t 53],
       .r 6 (.mv (.t 54))])
    (.seq (.reg [.r 55 (.mv (.t 6)),
       .r 56 (.bin .neq (.t 55) (.c (.d (.int .i64 0))))])
    (.cond (.t 56)
      (.seq (.reg [.r 57 (.mv (.t 6)),
         .r 2 (.mv (.t 57))])
      .ret)
      .skip)))
    (.seq (.reg [.r 58 (.mv (.t 4)),
       .r 59 (.bin .add (.t 58) (.c (.d (.int .i64 2)))),
       .r 4 (.mv (.t 59))])
    (.seq (.reg [.r 60 (.mv (.t 3)),
       .r 61 (.fld 6 (.t 1)),
       .o 62 (.ld1 (.t 61)),
       .r 63 (.mv (.t 5)),
       .r 64 (.idx 3 (.t 62) (.t 63)),
       .r 65 (.fld 2 (.t 64)),
       .o 66 (.ld1 (.t 65)),
       .r 67 (.len (.t 66)),
       .r 68 (.bin .add (.t 60) (.t 67)),
       .r 3 (.mv (.t 68))])
    (.seq (.reg [.r 7 (.mv (.c (.d (.int .i64 0))))])
    sc_interchangeref2_CheckInterchange_B1)))))
  (.reg [.r 49 (.mv (.t 5)),
     .r 50 (.bin .add (.t 49) (.c (.d (.int .i64 1)))),
     .r 5 (.mv (.t 50))])))
def sc_interchangeref2_CheckInterchange_B2 : SC := .block 0 (.loop sc_interchangeref2_CheckInterchange_L2)
/-- interchange/interchangeref2.CheckInterchange -/
def sc_interchangeref2_CheckInterchange : SC :=
  (.seq (.reg [.r 1 (.boxI (.t 0)),
     .r 2 (.mv (.c (.d (.int .i64 0))))])
  (.seq (.seq (.reg [.r 8 (.fld 0 (.t 1)),
     .o 9 (.ld1 (.t 8)),
     .c 10 (.f 19) [.t 9],
     .r 11 (.not (.t 10))])
  (.cond (.t 11)
    (.seq (.reg [.r 2 (.mv (.c (.d (.int .i64 3))))])
    .ret)
    .skip))
  (.seq (.seq (.reg (.r 12 (.fld 1 (.t 1)) :: .o 13 (.ld1 (.t 12)) :: .c 14 (.f 31) [.t 13] :: .r 15 (.not (.t 14)) :: .r 16 (.mv (.t 15)) :: gapp [17, 18, 19, 20] 16 false (.r 17 (.fld 2 (.t 1)) :: .r 18 (.ld1 (.t 17)) :: .c 19 (.f 31) [.t 18] :: .r 20 (.not (.t 19)) :: []) (.r 21 (.pick (.t 16) (.c (.d (.bool true))) (.t 20)) :: [])))
  (.cond (.t 21)
    (.seq (.reg [.r 2 (.mv (.c (.d (.int .i64 5))))])
    .ret)
    .skip))
  (.seq (.seq (.reg (.r 22 (.fld 3 (.t 1)) :: .o 23 (.ld1 (.t 22)) :: .r 24 (.bin .lss (.t 23) (.c (.d (.int .i64 1)))) :: .r 25 (.mv (.t 24)) :: gapp [26, 27, 28] 25 false (.r 26 (.fld 3 (.t 1)) :: .r 27 (.ld1 (.t 26)) :: .r 28 (.bin .gtr (.t 27) (.c (.d (.int .i64 3652059)))) :: []) (.r 29 (.pick (.t 25) (.c (.d (.bool true))) (.t 28)) :: .r 30 (.mv (.t 29)) :: gapp [31, 32, 33] 30 false (.r 31 (.fld 4 (.t 1)) :: .r 32 (.ld1 (.t 31)) :: .r 33 (.bin .lss (.t 32) (.c (.d (.int .i64 0)))) :: []) (.r 34 (.pick (.t 30) (.c (.d (.bool true))) (.t 33)) :: .r 35 (.mv (.t 34)) :: gapp [36, 37, 38] 35 false (.r 36 (.fld 4 (.t 1)) :: .r 37 (.ld1 (.t 36)) :: .r 38 (.bin .gtr (.t 37) (.c (.d (.int .i64 86399)))) :: []) (.r 39 (.pick (.t 35) (.c (.d (.bool true))) (.t 38)) :: [])))))
  (.cond (.t 39)
    (.seq (.reg [.r 2 (.mv (.c (.d (.int .i64 1))))])
    .ret)
    .skip))
  (.seq (.seq (.reg [.r 40 (.fld 6 (.t 1)),
     .o 41 (.ld1 (.t 40)),
     .r 42 (.len (.t 41)),
     .r 43 (.bin .gtr (.t 42) (.c (.d (.int .i64 50))))])
  (.cond (.t 43)
    (.seq (.reg [.r 2 (.mv (.c (.d (.int .i64 2))))])
    .ret)
    .skip))
  (.seq (.reg [.r 3 (.mv (.c (.d (.int .i64 0)))),
     .r 4 (.mv (.c (.d (.int .i64 2))))])
  (.seq (.seq (.reg [.r 5 (.mv (.c (.d (.int .i64 0))))])
  sc_interchangeref2_CheckInterchange_B2)
  (.seq (.seq (.reg (.r 94 (.mv (.t 3)) :: .r 95 (.bin .gtr (.t 94) (.c (.d (.int .i64 200)))) :: .r 96 (.mv (.t 95)) :: gapp [97, 98] 96 false (.r 97 (.mv (.t 4)) :: .r 98 (.bin .gtr (.t 97) (.c (.d (.int .i64 2000)))) :: []) (.r 99 (.pick (.t 96) (.c (.d (.bool true))) (.t 98)) :: [])))
  (.cond (.t 99)
    (.seq (.reg [.r 2 (.mv (.c (.d (.int .i64 2))))])
    .ret)
    .skip))
  (.seq (.reg [.r 2 (.mv (.c (.d (.int .i64 0))))])
  .ret)))))))))
theorem fit_interchangeref2_CheckInterchange : fits Tryz.prog 16 Tryz.f16 sc_interchangeref2_CheckInterchange [.t 2] 1 = true := by kernel_rfl

def sc_interchangeref2_SameInterchange_L1 : SC :=
  (.seq (.seq (.reg [.r 57 (.mv (.t 5)),
     .r 58 (.fld 6 (.t 2)),
     .o 59 (.ld1 (.t 58)),
     .r 60 (.len (.t 59)),
     .r 61 (.bin .lss (.t 57) (.t 60))])
  (.cond (.t 61)
    .skip
    (.exit 0)))
  (.seq (.block 1 (.seq (.regV [0, 1, 2, 3, 4, 5, 6, 7, 8, 9, 11, 10, 12, 13] [.r 64 (.fld 6 (.t 2)), .r 65 (.ld1 (.t 64)), .r 66 (.mv (.t 5)), .r 67 (.idx 3 (.t 65) (.t 66)), .r 68 (.ldA 3 (.t 67)), .r 69 (.fld 6 (.t 3)), .r 70 (.ld1 (.t 69)), .r 71 (.mv (.t 5)), .r 72 (.idx 3 (.t 70) (.t 71)), .r 73 (.ldA 3 (.t 72))] (.x 6 (.boxM (.c (.agg [.d (.str []), .d (.str []), .nils]))) [(0, 64, .fld 6 (.t 2)), (1, 65, .ld1 (.t 64)), (2, 66, .mv (.t 5)), (3, 67, .idx 3 (.t 65) (.t 66)), (4, 68, .ldA 3 (.t 67)), (5, 69, .fld 6 (.t 3)), (6, 70, .ld1 (.t 69)), (7, 71, .mv (.t 5)), (8, 72, .idx 3 (.t 70) (.t 71)), (9, 73, .ldA 3 (.t 72))]) (.x 7 (.boxM (.c (.agg [.d (.str []), .d (.str []), .nils]))) [(0, 64, .fld 6 (.t 2)), (1, 65, .ld1 (.t 64)), (2, 66, .mv (.t 5)), (3, 67, .idx 3 (.t 65) (.t 66)), (4, 68, .ldA 3 (.t 67)), (5, 69, .fld 6 (.t 3)), (6, 70, .ld1 (.t 69)), (7, 71, .mv (.t 5)), (8, 72, .idx 3 (.t 70) (.t 71)), (9, 73, .ldA 3 (.t 72))]) [.x 0 (.st 3 (.t 6) (.t 68)) [(5, 69, .fld 6 (.t 3)), (6, 70, .ld1 (.t 69)), (7, 71, .mv (.t 5)), (8, 72, .idx 3 (.t 70) (.t 71)), (9, 73, .ldA 3 (.t 72))], .x 0 (.st 3 (.t 7) (.t 73)) []])
    (.seq (.reg (.r 74 (.fld 0 (.t 6)) :: .o 75 (.ld1 (.t 74)) :: .r 76 (.fld 0 (.t 7)) :: .o 77 (.ld1 (.t 76)) :: .r 78 (.bin .neq (.t 75) (.t 77)) :: .r 79 (.mv (.t 78)) :: gapp [80, 81, 82, 83, 84] 79 false (.r 80 (.fld 1 (.t 6)) :: .r 81 (.ld1 (.t 80)) :: .r 82 (.fld 1 (.t 7)) :: .r 83 (.ld1 (.t 82)) :: .r 84 (.bin .neq (.t 81) (.t 83)) :: []) (.r 85 (.pick (.t 79) (.c (.d (.bool true))) (.t 84)) :: .r 86 (.mv (.t 85)) :: gapp [87, 88, 89, 90, 91, 92] 86 false (.r 87 (.fld 2 (.t 6)) :: .r 88 (.ld1 (.t 87)) :: .r 89 (.fld 2 (.t 7)) :: .r 90 (.ld1 (.t 89)) :: .c 91 (.f 20) [.t 88, .t 90] :: .r 92 (.not (.t 91)) :: []) (.r 93 (.pick (.t 86) (.c (.d (.bool true))) (.t 92)) :: []))))
    (.cond (.t 93)
      (.seq (.reg [.r 4 (.mv (.c (.d (.bool false))))])
      .ret)
      .skip))))
  (.reg [.r 62 (.mv (.t 5)),
     .r 63 (.bin .add (.t 62) (.c (.d (.int .i64 1)))),
     .r 5 (.mv (.t 63))])))
def sc_interchangeref2_SameInterchange_B1 : SC := .block 0 (.loop sc_interchangeref2_SameInterchange_L1)
/-- interchange/interchangeref2.SameInterchange -/
def sc_interchangeref2_SameInterchange : SC :=
  (.seq (.reg [.r 2 (.boxI (.t 0)),
     .r 3 (.boxI (.t 1)),
     .r 4 (.mv (.c (.d (.bool false))))])
  (.seq (.seq (.reg (.r 8 (.fld 0 (.t 2)) :: .o 9 (.ld1 (.t 8)) :: .r 10 (.fld 0 (.t 3)) :: .o 11 (.ld1 (.t 10)) :: .r 12 (.bin .neq (.t 9) (.t 11)) :: .r 13 (.mv (.t 12)) :: gapp [14, 15, 16, 17, 18] 13 false (.r 14 (.fld 1 (.t 2)) :: .r 15 (.ld1 (.t 14)) :: .r 16 (.fld 1 (.t 3)) :: .r 17 (.ld1 (.t 16)) :: .r 18 (.bin .neq (.t 15) (.t 17)) :: []) (.r 19 (.pick (.t 13) (.c (.d (.bool true))) (.t 18)) :: .r 20 (.mv (.t 19)) :: gapp [21, 22, 23, 24, 25] 20 false (.r 21 (.fld 2 (.t 2)) :: .r 22 (.ld1 (.t 21)) :: .r 23 (.fld 2 (.t 3)) :: .r 24 (.ld1 (.t 23)) :: .r 25 (.bin .neq (.t 22) (.t 24)) :: []) (.r 26 (.pick (.t 20) (.c (.d (.bool true))) (.t 25)) :: .r 27 (.mv (.t 26)) :: gapp [28, 29, 30, 31, 32] 27 false (.r 28 (.fld 3 (.t 2)) :: .r 29 (.ld1 (.t 28)) :: .r 30 (.fld 3 (.t 3)) :: .r 31 (.ld1 (.t 30)) :: .r 32 (.bin .neq (.t 29) (.t 31)) :: []) (.r 33 (.pick (.t 27) (.c (.d (.bool true))) (.t 32)) :: .r 34 (.mv (.t 33)) :: gapp [35, 36, 37, 38, 39] 34 false (.r 35 (.fld 4 (.t 2)) :: .r 36 (.ld1 (.t 35)) :: .r 37 (.fld 4 (.t 3)) :: .r 38 (.ld1 (.t 37)) :: .r 39 (.bin .neq (.t 36) (.t 38)) :: []) (.r 40 (.pick (.t 34) (.c (.d (.bool true))) (.t 39)) :: .r 41 (.mv (.t 40)) :: gapp [42, 43, 44, 45, 46] 41 false (.r 42 (.fld 5 (.t 2)) :: .r 43 (.ld1 (.t 42)) :: .r 44 (.fld 5 (.t 3)) :: .r 45 (.ld1 (.t 44)) :: .r 46 (.binB .neq (.t 43) (.t 45)) :: []) (.r 47 (.pick (.t 41) (.c (.d (.bool true))) (.t 46)) :: .r 48 (.mv (.t 47)) :: gapp [49, 50, 51, 52, 53, 54, 55] 48 false (.r 49 (.fld 6 (.t 2)) :: .r 50 (.ld1 (.t 49)) :: .r 51 (.len (.t 50)) :: .r 52 (.fld 6 (.t 3)) :: .r 53 (.ld1 (.t 52)) :: .r 54 (.len (.t 53)) :: .r 55 (.bin .neq (.t 51) (.t 54)) :: []) (.r 56 (.pick (.t 48) (.c (.d (.bool true))) (.t 55)) :: []))))))))
  (.cond (.t 56)
    (.seq (.reg [.r 4 (.mv (.c (.d (.bool false))))])
    .ret)
    .skip))
  (.seq (.seq (.reg [.r 5 (.mv (.c (.d (.int .i64 0))))])
  sc_interchangeref2_SameInterchange_B1)
  (.seq (.reg [.r 4 (.mv (.c (.d (.bool true))))])
  .ret))))
theorem fit_interchangeref2_SameInterchange : fits Tryz.prog 6 Tryz.f6 sc_interchangeref2_SameInterchange [.t 4] 2 = true := by kernel_rfl

set_option maxRecDepth 100000 in
set_option maxHeartbeats 40000000 in
noncomputable def sims_G3_4_0 : (∀ (x0 : Tapi_Interchange), {m : Option (Int) // ∀ r, m = some r → PureSpec Tryz.prog 10 [.agg (rTapi_Interchange x0)] (.int .i64 r)}) × (∀ (x0 : Tapi_Interchange), {m : Option (Int) // ∀ r, m = some r → PureSpec Tryz.prog 16 [.agg (rTapi_Interchange x0)] (.int .i64 r)}) × (∀ (x0 : Tapi_Interchange) (x1 : Tapi_Interchange), {m : Option (Bool) // ∀ r, m = some r → PureSpec Tryz.prog 6 [.agg (rTapi_Interchange x0), .agg (rTapi_Interchange x1)] (.bool r)}) := by
  refine ⟨?g0, ?g1, ?g2⟩
  case' g0 => (intro x0; apply Subtype.mk; intro r hm; apply pure_walk Tryz.func10 fit_wire_CheckInterchange; unfold sc_wire_CheckInterchange)
  case' g1 => (intro x0; apply Subtype.mk; intro r hm; apply pure_walk Tryz.func16 fit_interchangeref2_CheckInterchange; unfold sc_interchangeref2_CheckInterchange)
  case' g2 => (intro x0 x1; apply Subtype.mk; intro r hm; apply pure_walk Tryz.func6 fit_interchangeref2_SameInterchange; unfold sc_interchangeref2_SameInterchange)
  all_goals (repeat' (first | with_reducible refine W_seq ?_ | with_reducible refine W_reg ?_ | with_reducible refine W_regD ?_ | with_reducible refine W_regV ?_ | with_reducible refine W_block ?_ | with_reducible refine W_skip ?_ | with_reducible refine W_ret ?_ | with_reducible refine W_exit ?_ | with_reducible refine O_nil ?_ | with_reducible refine K_seq ?_ | with_reducible refine K_seqE ?_ | with_reducible refine K_seqR ?_ | with_reducible refine K_block ?_ | with_reducible refine K_blockR ?_ | with_reducible refine O_o2r ?_ | ((with_reducible apply O_idxrE hm); (iterate 2 (simp only [push_cast, seval]; rfl)); (intro _; rfl); intro e he hm) | ((with_reducible apply O_slcr hm); (iterate 3 (simp only [push_cast, seval]; rfl)); (intro _; rfl); intro e hm) | ((with_reducible apply O_r); (simp only [push_cast, seval]; rfl); (first | exact trivial)) | ((with_reducible apply O_or hm); (simp only [push_cast, seval]; rfl); rfl; intro v hm; rotate_left; intro v g hm) | ((with_reducible apply O_cF hm); (simp only [push_cast, seval]; rfl); (first | apply spec_kit_IsRef _ | apply spec_kit_IsName _ | apply spec_kit_IsDay _ | apply spec_kit_Outside _ _ _ | apply spec_wire_groupFault _ _ | apply spec_wire_counts _ | apply spec_interchangeref2_IsReference _ | apply spec_interchangeref2_IsName _ | apply spec_interchangeref2_checkGroup _ _ | apply spec_interchangeref2_sameMessages _ _); (any_goals ((repeat' (first | rfl)); done)); intro x hm) | ((with_reducible apply K_pair); (iterate 2 rfl); decide; (iterate 4 rfl); (focus ((repeat' (first | exact Rer_nil | ((with_reducible apply Rer_idx); (focus (simp only [push_cast, seval]; rfl)); (focus (simp only [push_cast, seval]; rfl)); rotate_left 2; (focus (first | (simp only [push_cast, seval]; rfl))); rotate_left; (focus assumption); (focus (intro _; rfl))) | ((with_reducible apply Rer_cons); (focus (simp only [push_cast, seval]; rfl)); (focus (first | exact trivial)); (focus (simp only [push_cast, seval]))))); done)); (focus ((repeat' (first | exact Rer_nil | ((with_reducible apply Rer_idx); (focus (simp only [push_cast, seval]; rfl)); (focus (simp only [push_cast, seval]; rfl)); rotate_left 2; (focus (first | (simp only [push_cast, seval]; rfl))); rotate_left; (focus assumption); (focus (intro _; rfl))) | ((with_reducible apply Rer_cons); (focus (simp only [push_cast, seval]; rfl)); (focus (first | exact trivial)); (focus (simp only [push_cast, seval]))))); done)); (focus ((repeat' (first | exact Rer_nil | ((with_reducible apply Rer_idx); (focus (simp only [push_cast, seval]; rfl)); (focus (simp only [push_cast, seval]; rfl)); rotate_left 2; (focus (first | (simp only [push_cast, seval]; rfl))); rotate_left; (focus assumption); (focus (intro _; rfl))) | ((with_reducible apply Rer_cons); (focus (simp only [push_cast, seval]; rfl)); (focus (first | exact trivial)); (focus (simp only [push_cast, seval]))))); done)); (focus ((repeat' (first | exact Rer_nil | ((with_reducible apply Rer_idx); (focus (simp only [push_cast, seval]; rfl)); (focus (simp only [push_cast, seval]; rfl)); rotate_left 2; (focus (first | (simp only [push_cast, seval]; rfl))); rotate_left; (focus assumption); (focus (intro _; rfl))) | ((with_reducible apply Rer_cons); (focus (simp only [push_cast, seval]; rfl)); (focus (first | exact trivial)); (focus (simp only [push_cast, seval]))))); done))) | ((with_reducible apply O_w); (simp only [push_cast, seval]; rfl); (first | exact trivial)) | ((with_reducible apply O_x); (simp only [push_cast, seval]; rfl); (first | exact trivial); (focus ((repeat' (first | exact Rer_nil | ((with_reducible apply Rer_idx); (focus (simp only [push_cast, seval]; rfl)); (focus (simp only [push_cast, seval]; rfl)); rotate_left 2; (focus (first | (simp only [push_cast, seval]; rfl))); rotate_left; (focus assumption); (focus (intro _; rfl))) | ((with_reducible apply Rer_cons); (focus (simp only [push_cast, seval]; rfl)); (focus (first | exact trivial)); (focus (simp only [push_cast, seval]))))); done))) | ((with_reducible apply S_condB hm); (simp only [push_cast, seval]; rfl); intro hm; rotate_left; intro hm) | ((with_reducible apply K_endS hm); (focus (simp only [resOf, resL, RV.get, push_cast, seval]; rfl)); (focus ((repeat' (first | rfl)); done))) | ((with_reducible apply K_bool hm); (simp only [push_cast, seval]; rfl)) | ((with_reducible apply K_leave hm); intro r hm) | ((with_reducible apply K_leaveR hm); intro r hm) | ((apply S_loopY (b := 1) (X := sc_wire_CheckInterchange_B1) (x := sc_wire_CheckInterchange_L1) rfl (fun (c : SV × SV × SV) (s : Int) => st [(1, c.1), (40, c.2.1), (41, c.2.2), (42, .d (.int .i64 s))] []) (c := (_, _, _)) (s0 := _) hm); (focus (first | (dsimp only; done))); (with_reducible refine Then.mk ?_ ?_)) | ((apply S_loopY (b := 2) (X := sc_interchangeref2_CheckInterchange_B1) (x := sc_interchangeref2_CheckInterchange_L1) rfl (fun (c : SV × SV × SV) (s : Int × Int) => st [(1, c.1), (3, c.2.1), (4, .d (.int .i64 s.1)), (5, c.2.2), (7, .d (.int .i64 s.2))] []) (c := (_, _, _)) (s0 := (_, _)) hm); (focus (first | (dsimp only; done))); (with_reducible refine Then.mk ?_ ?_)) | ((apply S_loopY (b := 0) (X := sc_interchangeref2_CheckInterchange_B2) (x := sc_interchangeref2_CheckInterchange_L2) rfl (fun (c : SV) (s : Int × Int × Int) => st [(1, c), (3, .d (.int .i64 s.1)), (4, .d (.int .i64 s.2.1)), (5, .d (.int .i64 s.2.2))] []) (c := _) (s0 := (_, _, _)) hm); (focus (first | (dsimp only; done))); (with_reducible refine Then.mk ?_ ?_)) | ((apply S_loopY (b := 0) (X := sc_interchangeref2_SameInterchange_B1) (x := sc_interchangeref2_SameInterchange_L1) rfl (fun (c : SV × SV) (s : Int) => st [(2, c.1), (3, c.2), (5, .d (.int .i64 s))] []) (c := (_, _)) (s0 := _) hm); (focus (first | (dsimp only; done))); (with_reducible refine Then.mk ?_ ?_)) | ((apply K_next (s' := (_, _, _)) hm); (focus (first | (dsimp only; done)))) | ((apply K_brk (s' := (_, _, _)) hm); (focus (first | (dsimp only; done)))) | ((apply K_next (s' := (_, _)) hm); (focus (first | (dsimp only; done)))) | ((apply K_brk (s' := (_, _)) hm); (focus (first | (dsimp only; done)))) | ((apply K_next (s' := _) hm); (focus (first | (dsimp only; done)))) | ((apply K_brk (s' := _) hm); (focus (first | (dsimp only; done)))) | (((with_reducible apply K_brkR hm); intro r hm)) | (((with_reducible apply LoopB.of); (focus (first | (dsimp only; done))); (focus ((intro _; repeat' (first | with_reducible exact impC_end | with_reducible refine impC_seq ?_ | with_reducible refine impC_block ?_ | ((with_reducible refine impC_rnd ?_); intro _) | ((with_reducible refine impC_brk ?_); intro _))))); (intro s o hm; first | unfold sc_wire_CheckInterchange_L1 | unfold sc_interchangeref2_CheckInterchange_L1 | unfold sc_interchangeref2_CheckInterchange_L2 | unfold sc_interchangeref2_SameInterchange_L1); rotate_left; intro s hm)) | (((apply imp_stT; (repeat' (first | with_reducible exact keepT_nil | with_reducible exact keepC_nil | with_reducible apply keepT_cons | ((with_reducible apply svle_eq); (focus (first | (simp only [push_cast, seval]; rfl))); (focus ((repeat' (first | rfl)); done))))); done)))))
noncomputable def m_wire_CheckInterchange (x0 : Tapi_Interchange) : Option (Int) := (sims_G3_4_0.1 x0).1
theorem spec_wire_CheckInterchange (x0 : Tapi_Interchange) : ∀ r, m_wire_CheckInterchange x0 = some r → PureSpec Tryz.prog 10 [.agg (rTapi_Interchange x0)] (.int .i64 r) := (sims_G3_4_0.1 x0).2
noncomputable def m_interchangeref2_CheckInterchange (x0 : Tapi_Interchange) : Option (Int) := (sims_G3_4_0.2.1 x0).1
theorem spec_interchangeref2_CheckInterchange (x0 : Tapi_Interchange) : ∀ r, m_interchangeref2_CheckInterchange x0 = some r → PureSpec Tryz.prog 16 [.agg (rTapi_Interchange x0)] (.int .i64 r) := (sims_G3_4_0.2.1 x0).2
noncomputable def m_interchangeref2_SameInterchange (x0 : Tapi_Interchange) (x1 : Tapi_Interchange) : Option (Bool) := (sims_G3_4_0.2.2 x0 x1).1
theorem spec_interchangeref2_SameInterchange (x0 : Tapi_Interchange) (x1 : Tapi_Interchange) : ∀ r, m_interchangeref2_SameInterchange x0 x1 = some r → PureSpec Tryz.prog 6 [.agg (rTapi_Interchange x0), .agg (rTapi_Interchange x1)] (.bool r) := (sims_G3_4_0.2.2 x0 x1).2

end Go.Proofs.YthcfbglbjipdaaaGreatDoor
