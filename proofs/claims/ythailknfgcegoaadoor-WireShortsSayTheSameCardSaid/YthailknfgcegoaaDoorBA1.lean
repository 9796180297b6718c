/-
  Texts of mine, one behind the other (Shelf, LibT, LibS, G1, LibO, LibH, G2, NF, LibP, LibC, ShelfC, LibD, CodeN, NC, CodeP, NP, NS).
-/
import Derived.Ground.NamesProg
import Derived.Shelf.Strings.SlTrimAscii
import Derived.Shelf.Small.Strs
import Derived.Shelf.Strings.IndexAnyAll
import Derived.Test.YthailknfgcegoaaDoorProg
import Derived.Test.YthailknfgcegoaaDoorEngY
import Derived.KernelRfl
import Derived.Test.YthailknfgcegoaaDoorEngZ
import Derived.Test.YthailknfgcegoaaDoorEngX
import Derived.Lib.SlBytesConst
import Derived.ArgAppend
import Derived.Test.YthailknfgcegoaaDoorEngW
import Derived.Shelf.SlicesE.Clone
import Derived.Shelf.SlGeneric
import Derived.Ground.SlgnProg
import Derived.Test.YthailknfgcegoaaDoorEngWk
/-
  DERIVED: THE SHELF's CONTRACTS AT THIS DUMP, IN PLAIN WORDS (tools/lay-plain.mjs out of 'YthailknfgcegoaaDoorShelf.lean', which tools/lay-shelf.mjs wrote): THE SAME DECLARATIONS UNDER THE SAME NAMES: 'import', 'namespace', 'open', 'def', 'theorem' AND NOTHING ELSE: no command of the shelf's: FOR A HAND-IN. Each laying: the table of numbers ('.._ren') and one theorem, a field a fact of the dump's own or the kernel's comparison; each contract: ONE APPLICATION.
-/
namespace Go.Proofs
open Go.Shelf
def Tryd.lays160_ren : Go.Shelf.Ren := ⟨fun | 160 => 89 | 232 => 113 | 231 => 112 | 227 => 114 | 234 => 116 | 233 => 115 | 236 => 118 | 235 => 117 | 228 => 148 | 271 => 151 | 151 => 150 | 197 => 149 | 120 => 169 | 152 => 168 | 260 => 167 | 137 => 100 | 119 => 174 | 224 => 175 | 225 => 176 | 217 => 140 | 266 => 161 | n => n, fun | 9 => 9 | 4 => 4 | 3 => 3 | 5 => 5 | 117 => 151 | 116 => 150 | 0 => 0 | 124 => 154 | 21 => 21 | 105 => 179 | 46 => 138 | 119 => 199 | 139 => 202 | 138 => 201 | n => n, fun | 3 => 2 | 4 => 3 | n => n⟩
theorem Tryd.lays160 : Go.Proofs.Lays.n160 Tryd.prog Tryd.lays160_ren := {
  mixed := by kernel_rfl
  f119 := Tryd.func174.trans (congrArg some (by kernel_rfl))
  f120 := Tryd.func169.trans (congrArg some (by kernel_rfl))
  f137 := Tryd.func100.trans (congrArg some (by kernel_rfl))
  f151 := Tryd.func150.trans (congrArg some (by kernel_rfl))
  f152 := Tryd.func168.trans (congrArg some (by kernel_rfl))
  f160 := Tryd.func89.trans (congrArg some (by kernel_rfl))
  f197 := Tryd.func149.trans (congrArg some (by kernel_rfl))
  f217 := Tryd.func140.trans (congrArg some (by kernel_rfl))
  f224 := Tryd.func175.trans (congrArg some (by kernel_rfl))
  f225 := Tryd.func176.trans (congrArg some (by kernel_rfl))
  f227 := Tryd.func114.trans (congrArg some (by kernel_rfl))
  f228 := Tryd.func148.trans (congrArg some (by kernel_rfl))
  f231 := Tryd.func112.trans (congrArg some (by kernel_rfl))
  f232 := Tryd.func113.trans (congrArg some (by kernel_rfl))
  f233 := Tryd.func115.trans (congrArg some (by kernel_rfl))
  f234 := Tryd.func116.trans (congrArg some (by kernel_rfl))
  f235 := Tryd.func117.trans (congrArg some (by kernel_rfl))
  f236 := Tryd.func118.trans (congrArg some (by kernel_rfl))
  f260 := Tryd.func167.trans (congrArg some (by kernel_rfl))
  f266 := Tryd.func161.trans (congrArg some (by kernel_rfl))
  f271 := Tryd.func151.trans (congrArg some (by kernel_rfl))
  t0 := Tryd.underlying0
  a0 := Tryd.isAgg0
  z0 := Tryd.sizeOf0
  v0 := Tryd.zeroValue0
  t3 := Tryd.underlying3
  a3 := Tryd.isAgg3
  z3 := Tryd.sizeOf3
  v3 := Tryd.zeroValue3
  t4 := Tryd.underlying4
  a4 := Tryd.isAgg4
  z4 := Tryd.sizeOf4
  v4 := Tryd.zeroValue4
  t5 := Tryd.underlying5
  a5 := Tryd.isAgg5
  z5 := Tryd.sizeOf5
  v5 := Tryd.zeroValue5
  t9 := Tryd.underlying9
  a9 := Tryd.isAgg9
  z9 := Tryd.sizeOf9
  v9 := Tryd.zeroValue9
  t21 := Tryd.underlying21
  a21 := Tryd.isAgg21
  z21 := Tryd.sizeOf21
  v21 := Tryd.zeroValue21
  t46 := Tryd.underlying138
  a46 := Tryd.isAgg138
  z46 := Tryd.sizeOf138
  v46 := Tryd.zeroValue138
  t105 := Tryd.underlying179
  a105 := Tryd.isAgg179
  z105 := Tryd.sizeOf179
  v105 := Tryd.zeroValue179
  t116 := Tryd.underlying150
  a116 := Tryd.isAgg150
  z116 := Tryd.sizeOf150
  t117 := Tryd.underlying151
  a117 := Tryd.isAgg151
  z117 := Tryd.sizeOf151
  v117 := Tryd.zeroValue151
  t119 := Tryd.underlying199
  a119 := Tryd.isAgg199
  z119 := Tryd.sizeOf199
  t124 := Tryd.underlying154
  a124 := Tryd.isAgg154
  z124 := Tryd.sizeOf154
  v124 := Tryd.zeroValue154
  t138 := Tryd.underlying201
  a138 := Tryd.isAgg201
  z138 := Tryd.sizeOf201
  v138 := Tryd.zeroValue201
  t139 := Tryd.underlying202
  a139 := Tryd.isAgg202
  z139 := Tryd.sizeOf202
  v139 := Tryd.zeroValue202
  g3 := by kernel_rfl
  g4 := by kernel_rfl }
def Tryd.lays137_ren : Go.Shelf.Ren := ⟨fun | 137 => 100 | 217 => 140 | 266 => 161 | n => n, fun | 9 => 9 | 5 => 5 | 3 => 3 | n => n, fun | n => n⟩
theorem Tryd.lays137 : Go.Proofs.Lays.n137 Tryd.prog Tryd.lays137_ren := {
  mixed := by kernel_rfl
  f137 := Tryd.func100.trans (congrArg some (by kernel_rfl))
  f217 := Tryd.func140.trans (congrArg some (by kernel_rfl))
  f266 := Tryd.func161.trans (congrArg some (by kernel_rfl))
  t3 := Tryd.underlying3
  a3 := Tryd.isAgg3
  z3 := Tryd.sizeOf3
  v3 := Tryd.zeroValue3
  t5 := Tryd.underlying5
  a5 := Tryd.isAgg5
  z5 := Tryd.sizeOf5
  v5 := Tryd.zeroValue5
  t9 := Tryd.underlying9
  a9 := Tryd.isAgg9
  z9 := Tryd.sizeOf9
  v9 := Tryd.zeroValue9 }
def Tryd.lays150_ren : Go.Shelf.Ren := ⟨fun | 150 => 142 | 153 => 162 | 152 => 168 | 226 => 171 | 227 => 114 | 228 => 148 | 137 => 100 | 119 => 174 | 224 => 175 | 225 => 176 | 217 => 140 | 266 => 161 | n => n, fun | 9 => 9 | 4 => 4 | 3 => 3 | 5 => 5 | 21 => 21 | 117 => 151 | 116 => 150 | 0 => 0 | 46 => 138 | 124 => 154 | n => n, fun | n => n⟩
theorem Tryd.lays150 : Go.Proofs.Lays.n150 Tryd.prog Tryd.lays150_ren := {
  mixed := by kernel_rfl
  f119 := Tryd.func174.trans (congrArg some (by kernel_rfl))
  f137 := Tryd.func100.trans (congrArg some (by kernel_rfl))
  f150 := Tryd.func142.trans (congrArg some (by kernel_rfl))
  f152 := Tryd.func168.trans (congrArg some (by kernel_rfl))
  f153 := Tryd.func162.trans (congrArg some (by kernel_rfl))
  f217 := Tryd.func140.trans (congrArg some (by kernel_rfl))
  f224 := Tryd.func175.trans (congrArg some (by kernel_rfl))
  f225 := Tryd.func176.trans (congrArg some (by kernel_rfl))
  f226 := Tryd.func171.trans (congrArg some (by kernel_rfl))
  f227 := Tryd.func114.trans (congrArg some (by kernel_rfl))
  f228 := Tryd.func148.trans (congrArg some (by kernel_rfl))
  f266 := Tryd.func161.trans (congrArg some (by kernel_rfl))
  t0 := Tryd.underlying0
  a0 := Tryd.isAgg0
  z0 := Tryd.sizeOf0
  v0 := Tryd.zeroValue0
  t3 := Tryd.underlying3
  a3 := Tryd.isAgg3
  z3 := Tryd.sizeOf3
  v3 := Tryd.zeroValue3
  t4 := Tryd.underlying4
  a4 := Tryd.isAgg4
  z4 := Tryd.sizeOf4
  v4 := Tryd.zeroValue4
  t5 := Tryd.underlying5
  a5 := Tryd.isAgg5
  z5 := Tryd.sizeOf5
  v5 := Tryd.zeroValue5
  t9 := Tryd.underlying9
  a9 := Tryd.isAgg9
  z9 := Tryd.sizeOf9
  v9 := Tryd.zeroValue9
  t21 := Tryd.underlying21
  a21 := Tryd.isAgg21
  z21 := Tryd.sizeOf21
  v21 := Tryd.zeroValue21
  t46 := Tryd.underlying138
  a46 := Tryd.isAgg138
  z46 := Tryd.sizeOf138
  v46 := Tryd.zeroValue138
  t116 := Tryd.underlying150
  a116 := Tryd.isAgg150
  z116 := Tryd.sizeOf150
  t117 := Tryd.underlying151
  a117 := Tryd.isAgg151
  z117 := Tryd.sizeOf151
  v117 := Tryd.zeroValue151
  t124 := Tryd.underlying154
  a124 := Tryd.isAgg154
  z124 := Tryd.sizeOf154
  v124 := Tryd.zeroValue154 }
end Go.Proofs

/-
  strings.Trim at a set of ASCII bytes.
-/
namespace Go.Proofs.YthailknfgcegoaaDoor
set_option linter.unusedSimpArgs false
set_option linter.unusedVariables false
open Go.RowKit Go.Shelf

def m_strings_Trim (s cs : List UInt8) : Option (List UInt8) := if s.length ≤ 9223372036854775807 ∧ cs.length < 4294967281 ∧ cs.all (fun b => decide (b.toNat < 128)) = true then some (Lib.trimS s cs) else none
theorem spec_strings_Trim (s cs : List UInt8) : ∀ r, m_strings_Trim s cs = some r → PureSpec Tryd.prog 89 [.str s, .str cs] (.str r) := by
  intro r hr
  unfold m_strings_Trim at hr
  split at hr
  · rename_i h
    obtain ⟨h1, h2, h3⟩ := h
    cases hr
    refine ⟨by kernel_rfl, fun w M vs hM hv => ?_⟩
    simp only [RepL, Rep] at hv
    obtain ⟨u, us, rfl, rfl, u', us', rfl, rfl, rfl⟩ := hv
    have hcon := Any.strings_Trim_laid Tryd.lays160 (by kernel_rfl) ⟨s.toArray⟩ ⟨cs.toArray⟩ w (by simpa [ByteArray.size] using h1) (by simpa [ByteArray.size] using h2) (ascii_of_all (by simpa using h3))
    refine Calls.mono hcon ?_
    rintro e w' ⟨rfl, hB⟩
    exact ⟨_, rfl, by simp [Rep], hB⟩
  · cases hr
end Go.Proofs.YthailknfgcegoaaDoor

/-
  strings.IndexByte and strings.ContainsAny (of ASCII).
-/
namespace Go.Proofs.YthailknfgcegoaaDoor
set_option linter.unusedSimpArgs false
set_option linter.unusedVariables false
open Go.RowKit Go.Shelf

def m_strings_IndexByte (s : List UInt8) (c : UInt8) : Option Int := some (Lib.indexByte s c)
theorem spec_strings_IndexByte (s : List UInt8) (c : UInt8) : ∀ r, m_strings_IndexByte s c = some r → PureSpec Tryd.prog 100 [.str s, .int .u8 c.toNat] (.int .i64 r) := by
  intro r hr
  cases hr
  refine ⟨by kernel_rfl, fun w M vs hM hv => ?_⟩
  simp only [RepL, Rep] at hv
  obtain ⟨u, us, rfl, rfl, u', us', rfl, rfl, rfl⟩ := hv
  have hcon := Any.strings_IndexByte Tryd.lays137 ⟨s.toArray⟩ (c.toNat : Int) w
  refine Calls.mono hcon ?_
  rintro e w' ⟨rfl, rfl⟩
  refine ⟨_, rfl, ?_, Below.refl _ _⟩
  simp only [Rep]
  have : ((c.toNat : Int)).toNat.toUInt8 = c := by simp
  rw [this]
def m_strings_ContainsAny (s cs : List UInt8) : Option Bool := if s.length < 4294967281 ∧ cs.length < 4294967281 ∧ s.all (fun b => decide (b.toNat < 128)) = true ∧ cs.all (fun b => decide (b.toNat < 128)) = true then some (Lib.containsAny s cs) else none
theorem spec_strings_ContainsAny (s cs : List UInt8) : ∀ r, m_strings_ContainsAny s cs = some r → PureSpec Tryd.prog 142 [.str s, .str cs] (.bool r) := by
  intro r hr
  unfold m_strings_ContainsAny at hr
  split at hr
  · rename_i h
    obtain ⟨h1, h2, h3, h4⟩ := h
    cases hr
    refine ⟨by kernel_rfl, fun w M vs hM hv => ?_⟩
    simp only [RepL, Rep] at hv
    obtain ⟨u, us, rfl, rfl, u', us', rfl, rfl, rfl⟩ := hv
    have asc : ∀ (l : List UInt8), l.all (fun b => decide (b.toNat < 128)) = true → ∀ (j : Nat) b, l[j]? = some b → b.toNat < 128 := fun l hl j b hb => by
      have := List.all_eq_true.1 hl b (List.mem_of_getElem? hb)
      simpa using this
    have hcon := Any.strings_ContainsAny_laid Tryd.lays150 (by kernel_rfl) ⟨s.toArray⟩ ⟨cs.toArray⟩ w (by simpa [ByteArray.size] using h1) (by simpa [ByteArray.size] using h2) (asc s h3) (asc cs h4)
    refine Calls.mono hcon ?_
    rintro e w' ⟨rfl, hB⟩
    exact ⟨_, rfl, by simp [Rep], hB⟩
  · cases hr
end Go.Proofs.YthailknfgcegoaaDoor

/-
  Bodies of functions and what they compute, printed by programs of mine (wip/tool/gen.py, sc.py) out of the translation; the kernel holds each against the translation.
-/
namespace Go.Proofs.YthailknfgcegoaaDoor
open Go.RowKit
set_option linter.unusedSimpArgs false
set_option linter.unusedVariables false
structure Tapi_Marks where
  fElement : UInt8
  fPart : UInt8
  fRepeat : UInt8
  fEscape : UInt8
  fEnd : UInt8
  deriving DecidableEq
def rTapi_Marks (x : Tapi_Marks) : List DV := [.int .u8 (x.fElement).toNat, .int .u8 (x.fPart).toNat, .int .u8 (x.fRepeat).toNat, .int .u8 (x.fEscape).toNat, .int .u8 (x.fEnd).toNat]
attribute [push_cast] rTapi_Marks
theorem fT_Tapi_Marks {d0 d1 d2 d3 d4 : DV} {v0 : UInt8} {v1 : UInt8} {v2 : UInt8} {v3 : UInt8} {v4 : UInt8} (h0 : d0 = .int .u8 (v0).toNat) (h1 : d1 = .int .u8 (v1).toNat) (h2 : d2 = .int .u8 (v2).toNat) (h3 : d3 = .int .u8 (v3).toNat) (h4 : d4 = .int .u8 (v4).toNat) : [d0, d1, d2, d3, d4] = rTapi_Marks ⟨v0, v1, v2, v3, v4⟩ := by unfold rTapi_Marks; simp only [h0, h1, h2, h3, h4, List.cons_append, List.nil_append, List.append_assoc, List.append_nil]
theorem cT_Tapi_Marks {d0 d1 d2 d3 d4 : SV} {v0 : UInt8} {v1 : UInt8} {v2 : UInt8} {v3 : UInt8} {v4 : UInt8} (h0 : svle d0 (.d (.int .u8 (v0).toNat))) (h1 : svle d1 (.d (.int .u8 (v1).toNat))) (h2 : svle d2 (.d (.int .u8 (v2).toNat))) (h3 : svle d3 (.d (.int .u8 (v3).toNat))) (h4 : svle d4 (.d (.int .u8 (v4).toNat))) : cellsle [d0, d1, d2, d3, d4] (dR (rTapi_Marks ⟨v0, v1, v2, v3, v4⟩)) := by have h := (cellsle.append (cellsle.consS h0 cellsle.nil) (cellsle.append (cellsle.consS h1 cellsle.nil) (cellsle.append (cellsle.consS h2 cellsle.nil) (cellsle.append (cellsle.consS h3 cellsle.nil) (cellsle.consS h4 cellsle.nil))))); simpa only [rTapi_Marks, dR, List.map_append, List.map_cons, List.map_nil, List.cons_append, List.nil_append, List.append_assoc, List.append_nil] using h
theorem eT_Tapi_Marks {d0 d1 d2 d3 d4 : SV} {v0 : UInt8} {v1 : UInt8} {v2 : UInt8} {v3 : UInt8} {v4 : UInt8} (h0 : d0 = .d (.int .u8 (v0).toNat)) (h1 : d1 = .d (.int .u8 (v1).toNat)) (h2 : d2 = .d (.int .u8 (v2).toNat)) (h3 : d3 = .d (.int .u8 (v3).toNat)) (h4 : d4 = .d (.int .u8 (v4).toNat)) : [d0, d1, d2, d3, d4] = dR (rTapi_Marks ⟨v0, v1, v2, v3, v4⟩) := by simp only [rTapi_Marks, dR, List.map_append, List.map_cons, List.map_nil, List.cons_append, List.nil_append, List.append_assoc, List.append_nil, h0, h1, h2, h3, h4]

structure Tapi_Element where
  fRepeats : List (List (List UInt8))
  deriving DecidableEq
def rTapi_Element (x : Tapi_Element) : List DV := [.slice (List.map (rowL rowS) x.fRepeats)]
attribute [push_cast] rTapi_Element
theorem fT_Tapi_Element {d0 : DV} {v0 : List (List (List UInt8))} (h0 : d0 = .slice (List.map (rowL rowS) v0)) : [d0] = rTapi_Element ⟨v0⟩ := by unfold rTapi_Element; simp only [h0, List.cons_append, List.nil_append, List.append_assoc, List.append_nil]
theorem cT_Tapi_Element {d0 : SV} {v0 : List (List (List UInt8))} (h0 : svle d0 (.d (.slice (List.map (rowL rowS) v0)))) : cellsle [d0] (dR (rTapi_Element ⟨v0⟩)) := by have h := (cellsle.consS h0 cellsle.nil); simpa only [rTapi_Element, dR, List.map_append, List.map_cons, List.map_nil, List.cons_append, List.nil_append, List.append_assoc, List.append_nil] using h
theorem eT_Tapi_Element {d0 : SV} {v0 : List (List (List UInt8))} (h0 : d0 = .d (.slice (List.map (rowL rowS) v0))) : [d0] = dR (rTapi_Element ⟨v0⟩) := by simp only [rTapi_Element, dR, List.map_append, List.map_cons, List.map_nil, List.cons_append, List.nil_append, List.append_assoc, List.append_nil, h0]

structure Tapi_Segment where
  fTag : List UInt8
  fElements : List Tapi_Element
  deriving DecidableEq
def rTapi_Segment (x : Tapi_Segment) : List DV := [.str x.fTag, .slice (List.map rTapi_Element x.fElements)]
attribute [push_cast] rTapi_Segment
theorem fT_Tapi_Segment {d0 d1 : DV} {v0 : List UInt8} {v1 : List Tapi_Element} (h0 : d0 = .str v0) (h1 : d1 = .slice (List.map rTapi_Element v1)) : [d0, d1] = rTapi_Segment ⟨v0, v1⟩ := by unfold rTapi_Segment; simp only [h0, h1, List.cons_append, List.nil_append, List.append_assoc, List.append_nil]
theorem cT_Tapi_Segment {d0 d1 : SV} {v0 : List UInt8} {v1 : List Tapi_Element} (h0 : svle d0 (.d (.str v0))) (h1 : svle d1 (.d (.slice (List.map rTapi_Element v1)))) : cellsle [d0, d1] (dR (rTapi_Segment ⟨v0, v1⟩)) := by have h := (cellsle.append (cellsle.consS h0 cellsle.nil) (cellsle.consS h1 cellsle.nil)); simpa only [rTapi_Segment, dR, List.map_append, List.map_cons, List.map_nil, List.cons_append, List.nil_append, List.append_assoc, List.append_nil] using h
theorem eT_Tapi_Segment {d0 d1 : SV} {v0 : List UInt8} {v1 : List Tapi_Element} (h0 : d0 = .d (.str v0)) (h1 : d1 = .d (.slice (List.map rTapi_Element v1))) : [d0, d1] = dR (rTapi_Segment ⟨v0, v1⟩) := by simp only [rTapi_Segment, dR, List.map_append, List.map_cons, List.map_nil, List.cons_append, List.nil_append, List.append_assoc, List.append_nil, h0, h1]

def sc_kit_InBytes_L1 : SC :=
  (.seq (.reg [.r 11 (.bin .lss (.t 10) (.t 9))])
  (.seq (.cond (.t 11)
    .skip
    (.exit 0))
  (.seq (.block 1 (.seq (.reg [.r 12 (.mv (.t 10)),
       .r 7 (.mv (.t 12))])
    (.seq (.reg (.r 13 (.mv (.t 0)) :: .r 14 (.mv (.t 7)) :: .r 15 (.sidx (.t 13) (.t 14)) :: .r 16 (.mv (.t 1)) :: .r 17 (.bin .lss (.t 15) (.t 16)) :: .r 18 (.mv (.t 17)) :: gapp [19, 20, 21, 22, 23] 18 false (.r 19 (.mv (.t 0)) :: .r 20 (.mv (.t 7)) :: .r 21 (.sidx (.t 19) (.t 20)) :: .r 22 (.mv (.t 2)) :: .r 23 (.bin .gtr (.t 21) (.t 22)) :: []) (.r 24 (.pick (.t 18) (.c (.d (.bool true))) (.t 23)) :: [])))
    (.cond (.t 24)
      (.seq (.reg [.r 6 (.mv (.c (.d (.bool false))))])
      .ret)
      .skip))))
  (.reg [.r 25 (.bin .add (.t 10) (.c (.d (.int .i64 1)))),
     .r 10 (.mv (.t 25))]))))
def sc_kit_InBytes_B1 : SC := .block 0 (.loop sc_kit_InBytes_L1)
/-- interchange/kit.InBytes -/
def sc_kit_InBytes : SC :=
  (.seq (.reg [.r 6 (.mv (.c (.d (.bool false))))])
  (.seq (.seq (.reg [.r 8 (.mv (.t 0)),
     .r 9 (.lenT (.t 8)),
     .r 10 (.mv (.c (.d (.int .i64 0))))])
  sc_kit_InBytes_B1)
  (.seq (.reg [.r 6 (.mv (.c (.d (.bool true))))])
  .ret)))
theorem fit_kit_InBytes : fits Tryd.prog 109 Tryd.f109 sc_kit_InBytes [.t 6] 3 = true := by kernel_rfl

def sc_slices_Index_byte_byte_L1 : SC :=
  (.seq (.reg [.r 9 (.bin .lss (.t 8) (.t 7))])
  (.seq (.cond (.t 9)
    .skip
    (.exit 0))
  (.seq (.block 1 (.seq (.reg [.r 10 (.mv (.t 8)),
       .r 5 (.mv (.t 10))])
    (.seq (.reg [.r 11 (.mv (.t 1)),
       .r 12 (.mv (.t 0)),
       .r 13 (.mv (.t 5)),
       .r 14 (.idx 1 (.t 12) (.t 13)),
       .o 15 (.ld1 (.t 14)),
       .r 16 (.bin .eql (.t 11) (.t 15))])
    (.cond (.t 16)
      (.seq (.reg [.r 17 (.mv (.t 5)),
         .r 4 (.mv (.t 17))])
      .ret)
      .skip))))
  (.reg [.r 18 (.bin .add (.t 8) (.c (.d (.int .i64 1)))),
     .r 8 (.mv (.t 18))]))))
def sc_slices_Index_byte_byte_B1 : SC := .block 0 (.loop sc_slices_Index_byte_byte_L1)
/-- slices.Index[[]byte,byte] -/
def sc_slices_Index_byte_byte : SC :=
  (.seq (.reg [.r 4 (.mv (.c (.d (.int .i64 0))))])
  (.seq (.seq (.reg [.r 6 (.mv (.t 0)),
     .r 7 (.len (.t 6)),
     .r 8 (.mv (.c (.d (.int .i64 0))))])
  sc_slices_Index_byte_byte_B1)
  (.seq (.reg [.r 4 (.mv (.c (.d (.int .i64 (-1)))))])
  .ret)))
theorem fit_slices_Index_byte_byte : fits Tryd.prog 143 Tryd.f143 sc_slices_Index_byte_byte [.t 4] 2 = true := by kernel_rfl

def sc_interchangeref2_beginsTag_L1 : SC :=
  (.seq (.seq (.reg [.r 5 (.mv (.t 3)),
     .r 6 (.mv (.t 0)),
     .r 7 (.lenT (.t 6)),
     .r 8 (.bin .lss (.t 5) (.t 7))])
  (.cond (.t 8)
    .skip
    (.exit 0)))
  (.seq (.block 1 (.seq (.reg (.r 11 (.mv (.t 0)) :: .r 12 (.mv (.t 3)) :: .r 13 (.sidx (.t 11) (.t 12)) :: .r 14 (.bin .geq (.t 13) (.c (.d (.int .u8 65)))) :: .r 15 (.mv (.t 14)) :: gapp [16, 17, 18, 19] 15 true (.r 16 (.mv (.t 0)) :: .r 17 (.mv (.t 3)) :: .r 18 (.sidx (.t 16) (.t 17)) :: .r 19 (.bin .leq (.t 18) (.c (.d (.int .u8 90)))) :: []) (.r 20 (.pick (.t 15) (.t 19) (.c (.d (.bool false)))) :: .r 4 (.mv (.t 20)) :: [])))
    (.seq (.reg (.r 21 (.mv (.t 4)) :: .r 22 (.not (.t 21)) :: .r 23 (.mv (.t 22)) :: gapp [24, 25, 26, 27, 28, 29, 30, 31, 32, 33, 34, 35, 36, 37] 23 true (.r 24 (.mv (.t 3)) :: .r 25 (.bin .eql (.t 24) (.c (.d (.int .i64 0)))) :: .r 26 (.mv (.t 25)) :: gapp [27, 28, 29, 30] 26 false (.r 27 (.mv (.t 0)) :: .r 28 (.mv (.t 3)) :: .r 29 (.sidx (.t 27) (.t 28)) :: .r 30 (.bin .lss (.t 29) (.c (.d (.int .u8 48)))) :: []) (.r 31 (.pick (.t 26) (.c (.d (.bool true))) (.t 30)) :: .r 32 (.mv (.t 31)) :: gapp [33, 34, 35, 36] 32 false (.r 33 (.mv (.t 0)) :: .r 34 (.mv (.t 3)) :: .r 35 (.sidx (.t 33) (.t 34)) :: .r 36 (.bin .gtr (.t 35) (.c (.d (.int .u8 57)))) :: []) (.r 37 (.pick (.t 32) (.c (.d (.bool true))) (.t 36)) :: []))) (.r 38 (.pick (.t 23) (.t 37) (.c (.d (.bool false)))) :: [])))
    (.cond (.t 38)
      (.seq (.reg [.r 2 (.mv (.c (.d (.bool false))))])
      .ret)
      .skip))))
  (.reg [.r 9 (.mv (.t 3)),
     .r 10 (.bin .add (.t 9) (.c (.d (.int .i64 1)))),
     .r 3 (.mv (.t 10))])))
def sc_interchangeref2_beginsTag_B1 : SC := .block 0 (.loop sc_interchangeref2_beginsTag_L1)
/-- interchange/interchangeref2.beginsTag -/
def sc_interchangeref2_beginsTag : SC :=
  (.seq (.reg [.r 2 (.mv (.c (.d (.bool false))))])
  (.seq (.seq (.reg [.r 3 (.mv (.c (.d (.int .i64 0))))])
  sc_interchangeref2_beginsTag_B1)
  (.seq (.reg [.r 39 (.mv (.t 0)),
     .r 40 (.lenT (.t 39)),
     .r 41 (.bin .leq (.t 40) (.c (.d (.int .i64 6)))),
     .r 2 (.mv (.t 41))])
  .ret)))
theorem fit_interchangeref2_beginsTag : fits Tryd.prog 141 Tryd.f141 sc_interchangeref2_beginsTag [.t 2] 1 = true := by kernel_rfl

def sc_interchangeref2_checkText_L1 : SC :=
  (.seq (.seq (.reg [.r 7 (.mv (.t 3)),
     .r 8 (.mv (.t 0)),
     .r 9 (.lenT (.t 8)),
     .r 10 (.bin .lss (.t 7) (.t 9))])
  (.cond (.t 10)
    .skip
    (.exit 0)))
  (.seq (.block 1 (.seq (.reg (.r 13 (.mv (.t 0)) :: .r 14 (.mv (.t 3)) :: .r 15 (.sidx (.t 13) (.t 14)) :: .r 16 (.bin .lss (.t 15) (.c (.d (.int .u8 32)))) :: .r 17 (.mv (.t 16)) :: gapp [18, 19, 20, 21] 17 false (.r 18 (.mv (.t 0)) :: .r 19 (.mv (.t 3)) :: .r 20 (.sidx (.t 18) (.t 19)) :: .r 21 (.bin .gtr (.t 20) (.c (.d (.int .u8 126)))) :: []) (.r 22 (.pick (.t 17) (.c (.d (.bool true))) (.t 21)) :: [])))
    (.cond (.t 22)
      (.seq (.reg [.r 2 (.mv (.c (.d (.int .i64 3))))])
      .ret)
      .skip)))
  (.reg [.r 11 (.mv (.t 3)),
     .r 12 (.bin .add (.t 11) (.c (.d (.int .i64 1)))),
     .r 3 (.mv (.t 12))])))
def sc_interchangeref2_checkText_B1 : SC := .block 0 (.loop sc_interchangeref2_checkText_L1)
/-- interchange/interchangeref2.checkText -/
def sc_interchangeref2_checkText : SC :=
  (.seq (.reg [.r 2 (.mv (.c (.d (.int .i64 0))))])
  (.seq (.seq (.reg [.r 4 (.mv (.t 0)),
     .r 5 (.lenT (.t 4)),
     .r 6 (.bin .gtr (.t 5) (.c (.d (.int .i64 1000))))])
  (.cond (.t 6)
    (.seq (.reg [.r 2 (.mv (.c (.d (.int .i64 2))))])
    .ret)
    .skip))
  (.seq (.seq (.reg [.r 3 (.mv (.c (.d (.int .i64 0))))])
  sc_interchangeref2_checkText_B1)
  (.seq (.reg [.r 2 (.mv (.c (.d (.int .i64 0))))])
  .ret))))
theorem fit_interchangeref2_checkText : fits Tryd.prog 49 Tryd.f49 sc_interchangeref2_checkText [.t 2] 1 = true := by kernel_rfl

set_option maxRecDepth 100000 in
set_option maxHeartbeats 40000000 in
noncomputable def sims_G1_0_0 : (∀ (x0 : List UInt8) (x1 : UInt8) (x2 : UInt8), {m : Option (Bool) // ∀ r, m = some r → PureSpec Tryd.prog 109 [.str x0, .int .u8 (x1).toNat, .int .u8 (x2).toNat] (.bool r)}) × (∀ (x0 : List UInt8) (x1 : UInt8), {m : Option (Int) // ∀ r, m = some r → PureSpec Tryd.prog 143 [.slice (List.map rowY x0), .int .u8 (x1).toNat] (.int .i64 r)}) × (∀ (x0 : List UInt8), {m : Option (Bool) // ∀ r, m = some r → PureSpec Tryd.prog 141 [.str x0] (.bool r)}) × (∀ (x0 : List UInt8), {m : Option (Int) // ∀ r, m = some r → PureSpec Tryd.prog 49 [.str x0] (.int .i64 r)}) := by
  refine ⟨?g0, ?g1, ?g2, ?g3⟩
  case' g0 => (intro x0 x1 x2; apply Subtype.mk; intro r hm; apply pure_walk Tryd.func109 fit_kit_InBytes; unfold sc_kit_InBytes)
  case' g1 => (intro x0 x1; apply Subtype.mk; intro r hm; apply pure_walk Tryd.func143 fit_slices_Index_byte_byte; unfold sc_slices_Index_byte_byte)
  case' g2 => (intro x0; apply Subtype.mk; intro r hm; apply pure_walk Tryd.func141 fit_interchangeref2_beginsTag; unfold sc_interchangeref2_beginsTag)
  case' g3 => (intro x0; apply Subtype.mk; intro r hm; apply pure_walk Tryd.func49 fit_interchangeref2_checkText; unfold sc_interchangeref2_checkText)
  all_goals (repeat' (first | with_reducible refine W_seq ?_ | with_reducible refine W_reg ?_ | with_reducible refine W_block ?_ | with_reducible refine W_skip ?_ | with_reducible refine W_ret ?_ | with_reducible refine W_exit ?_ | with_reducible refine O_nil ?_ | with_reducible refine K_seq ?_ | with_reducible refine K_seqE ?_ | with_reducible refine K_seqR ?_ | with_reducible refine K_block ?_ | with_reducible refine K_blockR ?_ | with_reducible refine K_blockE ?_ | ((with_reducible apply K_blockN); decide) | with_reducible refine O_o2r ?_ | ((with_reducible apply O_idxr hm); (iterate 2 (simp only [push_cast, seval]; rfl)); (intro _; rfl); intro e hm) | ((with_reducible apply O_idxVr hm); (iterate 3 (simp only [push_cast, seval]; rfl)); intro e hm) | ((with_reducible apply O_sidxr hm); (iterate 2 (simp only [push_cast, seval]; rfl)); intro e hm) | ((with_reducible apply O_r); (simp only [push_cast, seval]; rfl); (first | exact trivial | omega)) | ((with_reducible apply O_ldV1r hm); (iterate 2 (simp only [push_cast, seval]; rfl)); (intro _; rfl); intro e hm) | ((with_reducible apply O_strr hm); (iterate 2 (simp only [push_cast, seval]; rfl)); intro hm) | ((with_reducible apply O_and hm); (simp only [push_cast, seval]; rfl); rfl; intro v hm; rotate_left; intro v g hm) | ((with_reducible apply O_or hm); (simp only [push_cast, seval]; rfl); rfl; intro v hm; rotate_left; intro v g hm) | ((with_reducible apply W_condT); (focus (simp only [push_cast, seval]; done))) | ((with_reducible apply W_condF); (focus (simp only [push_cast, seval]; done))) | ((with_reducible apply S_condB hm); (simp only [push_cast, seval]; rfl); intro hm; rotate_left; intro hm) | ((with_reducible apply K_endS hm); (focus (simp only [resOf, resL, RV.get, push_cast, seval]; rfl)); (focus ((repeat' (first | rfl | (with_reducible first | apply fT_Tapi_Marks | apply fT_Tapi_Element | apply fT_Tapi_Segment | apply f_optN | apply f_optS | apply f_some | apply f_tup | apply f_agg | apply f_ptr | apply f_fn | apply dv_slice | apply sv_d | apply f_cons | apply fold_nil | apply fold_cons | apply fold_app | apply f_rowI | apply f_rowY | apply f_rowS | apply f_rowB | apply f_rowL) | (with_reducible apply f_byte; decide))); done))) | ((with_reducible apply K_bool hm); (simp only [push_cast, seval]; rfl)) | ((with_reducible apply K_leave hm); intro r hm) | ((with_reducible apply K_leaveR hm); intro r hm) | ((apply S_loopY (b := 0) (X := sc_kit_InBytes_B1) (x := sc_kit_InBytes_L1) rfl (fun (c : SV × SV × SV × SV) (s : Int) => st [(0, c.1), (1, c.2.1), (2, c.2.2.1), (9, c.2.2.2), (10, .d (.int .i64 s))] []) (c := (_, _, _, _)) (s0 := _) hm); (focus (first | (dsimp only; done) | (dsimp only; rfl) | rfl)); (with_reducible refine Then.mk ?_ ?_)) | ((apply S_loopY (b := 0) (X := sc_slices_Index_byte_byte_B1) (x := sc_slices_Index_byte_byte_L1) rfl (fun (c : SV × SV × SV) (s : Int) => st [(0, c.1), (1, c.2.1), (7, c.2.2), (8, .d (.int .i64 s))] []) (c := (_, _, _)) (s0 := _) hm); (focus (first | (dsimp only; done) | (dsimp only; rfl) | rfl)); (with_reducible refine Then.mk ?_ ?_)) | ((apply S_loopY (b := 0) (X := sc_interchangeref2_beginsTag_B1) (x := sc_interchangeref2_beginsTag_L1) rfl (fun (c : SV) (s : Int) => st [(0, c), (3, .d (.int .i64 s))] []) (c := _) (s0 := _) hm); (focus (first | (dsimp only; done) | (dsimp only; rfl) | rfl)); (with_reducible refine Then.mk ?_ ?_)) | ((apply S_loopY (b := 0) (X := sc_interchangeref2_checkText_B1) (x := sc_interchangeref2_checkText_L1) rfl (fun (c : SV) (s : Int) => st [(0, c), (3, .d (.int .i64 s))] []) (c := _) (s0 := _) hm); (focus (first | (dsimp only; done) | (dsimp only; rfl) | rfl)); (with_reducible refine Then.mk ?_ ?_)) | ((apply K_next (s' := _) hm); (focus (first | (dsimp only; done) | (dsimp only; rfl) | rfl))) | ((apply K_brk (s' := _) hm); (focus (first | (dsimp only; done) | (dsimp only; rfl) | rfl))) | (((with_reducible apply K_brkN hm); (focus decide); intro r hm)) | (((with_reducible apply K_brkR hm); intro r hm)) | (((with_reducible apply LoopB.of); (focus (first | (dsimp only; done) | (dsimp only; rfl) | rfl)); (focus ((intro _; repeat' (first | with_reducible exact impC_end | with_reducible exact impC_endF | with_reducible refine impC_seq ?_ | with_reducible refine impC_block ?_ | ((with_reducible refine impC_rnd ?_); intro _) | ((with_reducible refine impC_brk ?_); intro _))))); (intro s o hm; first | unfold sc_kit_InBytes_L1 | unfold sc_slices_Index_byte_byte_L1 | unfold sc_interchangeref2_beginsTag_L1 | unfold sc_interchangeref2_checkText_L1); rotate_left; intro s hm)) | (((apply imp_stT; (repeat' (first | with_reducible exact keepT_nil | with_reducible exact keepC_nil | with_reducible apply keepT_cons | with_reducible apply keepC_cons | ((with_reducible apply svle_eq); (focus (first | (simp only [push_cast, seval]; rfl) | rfl)); (focus ((repeat' (first | rfl | (with_reducible first | apply fT_Tapi_Marks | apply fT_Tapi_Element | apply fT_Tapi_Segment | apply f_optN | apply f_optS | apply f_some | apply f_tup | apply f_agg | apply f_ptr | apply f_fn | apply dv_slice | apply sv_d | apply f_cons | apply fold_nil | apply fold_cons | apply fold_app | apply f_rowI | apply f_rowY | apply f_rowS | apply f_rowB | apply f_rowL) | (with_reducible apply f_byte; decide))); done))) | ((with_reducible apply svle_td); (focus (first | (simp only [push_cast, seval]; rfl) | rfl)); (focus (first | (simp only [push_cast, seval]; rfl) | rfl)); (focus ((repeat' (first | rfl | (with_reducible first | apply fT_Tapi_Marks | apply fT_Tapi_Element | apply fT_Tapi_Segment | apply f_optN | apply f_optS | apply f_some | apply f_tup | apply f_agg | apply f_ptr | apply f_fn | apply dv_slice | apply sv_d | apply f_cons | apply fold_nil | apply fold_cons | apply fold_app | apply f_rowI | apply f_rowY | apply f_rowS | apply f_rowB | apply f_rowL) | (with_reducible apply f_byte; decide))); done))) | ((with_reducible apply chle_eq); (focus (first | (simp only [push_cast, seval]; rfl) | rfl)); (first | with_reducible exact chle_rfl rfl | with_reducible exact chle_map0 | with_reducible apply chle_vec | with_reducible apply chle_box)) | (with_reducible first | apply cT_Tapi_Marks | apply cT_Tapi_Element | apply cT_Tapi_Segment | apply r_shS | apply r_shI | apply r_rflO | apply r_oneO | apply r_appO | apply r_nilO | apply c_ownN | apply c_ownL | apply vc_rfl | apply vc_nil | apply vc_cons | apply r_rfl | apply r_rows | apply r_nil | apply r_app | apply r_cons | apply c_rowI | apply c_rowY | apply c_rowS | apply c_rowB | apply c_rowL))); done)))))
noncomputable def m_kit_InBytes (x0 : List UInt8) (x1 : UInt8) (x2 : UInt8) : Option (Bool) := (sims_G1_0_0.1 x0 x1 x2).1
theorem spec_kit_InBytes (x0 : List UInt8) (x1 : UInt8) (x2 : UInt8) : ∀ r, m_kit_InBytes x0 x1 x2 = some r → PureSpec Tryd.prog 109 [.str x0, .int .u8 (x1).toNat, .int .u8 (x2).toNat] (.bool r) := (sims_G1_0_0.1 x0 x1 x2).2
noncomputable def m_slices_Index_byte_byte (x0 : List UInt8) (x1 : UInt8) : Option (Int) := (sims_G1_0_0.2.1 x0 x1).1
theorem spec_slices_Index_byte_byte (x0 : List UInt8) (x1 : UInt8) : ∀ r, m_slices_Index_byte_byte x0 x1 = some r → PureSpec Tryd.prog 143 [.slice (List.map rowY x0), .int .u8 (x1).toNat] (.int .i64 r) := (sims_G1_0_0.2.1 x0 x1).2
noncomputable def m_interchangeref2_beginsTag (x0 : List UInt8) : Option (Bool) := (sims_G1_0_0.2.2.1 x0).1
theorem spec_interchangeref2_beginsTag (x0 : List UInt8) : ∀ r, m_interchangeref2_beginsTag x0 = some r → PureSpec Tryd.prog 141 [.str x0] (.bool r) := (sims_G1_0_0.2.2.1 x0).2
noncomputable def m_interchangeref2_checkText (x0 : List UInt8) : Option (Int) := (sims_G1_0_0.2.2.2 x0).1
theorem spec_interchangeref2_checkText (x0 : List UInt8) : ∀ r, m_interchangeref2_checkText x0 = some r → PureSpec Tryd.prog 49 [.str x0] (.int .i64 r) := (sims_G1_0_0.2.2.2 x0).2

/-- interchange/kit.IsTagPart -/
def sc_kit_IsTagPart : SC :=
  (.seq (.reg [.r 2 (.mv (.c (.d (.bool false))))])
  (.seq (.reg [.r 3 (.mv (.t 0)),
     .c 4 (.f 89) [.t 3, .c (.d (.str [65, 66, 67, 68, 69, 70, 71, 72, 73, 74, 75, 76, 77, 78, 79, 80, 81, 82, 83, 84, 85, 86, 87, 88, 89, 90, 48, 49, 50, 51, 52, 53, 54, 55, 56, 57]))],
     .r 5 (.bin .eql (.t 4) (.c (.d (.str [])))),
     .r 2 (.mv (.t 5))])
  .ret))
theorem fit_kit_IsTagPart : fits Tryd.prog 101 Tryd.f101 sc_kit_IsTagPart [.t 2] 1 = true := by kernel_rfl

/-- slices.Contains[[]byte,byte] -/
def sc_slices_Contains_byte_byte : SC :=
  (.seq (.reg [.r 4 (.mv (.c (.d (.bool false))))])
  (.seq (.reg [.r 5 (.mv (.t 0)),
     .r 6 (.mv (.t 1)),
     .c 7 (.f 143) [.t 5, .t 6],
     .r 8 (.bin .geq (.t 7) (.c (.d (.int .i64 0)))),
     .r 4 (.mv (.t 8))])
  .ret))
theorem fit_slices_Contains_byte_byte : fits Tryd.prog 108 Tryd.f108 sc_slices_Contains_byte_byte [.t 4] 2 = true := by kernel_rfl

/-- interchange/kit.IsText -/
def sc_kit_IsText : SC :=
  (.seq (.reg [.r 2 (.mv (.c (.d (.bool false))))])
  (.seq (.reg (.r 3 (.mv (.t 0)) :: .r 4 (.lenT (.t 3)) :: .r 5 (.bin .leq (.t 4) (.c (.d (.int .i64 1000)))) :: .r 6 (.mv (.t 5)) :: gapp [7, 8] 6 true (.r 7 (.mv (.t 0)) :: .c 8 (.f 109) [.t 7, .c (.d (.int .u8 32)), .c (.d (.int .u8 126))] :: []) (.r 9 (.pick (.t 6) (.t 8) (.c (.d (.bool false)))) :: .r 2 (.mv (.t 9)) :: [])))
  .ret))
theorem fit_kit_IsText : fits Tryd.prog 83 Tryd.f83 sc_kit_IsText [.t 2] 1 = true := by kernel_rfl

/-- interchange/interchangeref2.IsTag -/
def sc_interchangeref2_IsTag : SC :=
  (.seq (.reg [.r 2 (.mv (.c (.d (.bool false))))])
  (.seq (.reg (.r 3 (.mv (.t 0)) :: .r 4 (.lenT (.t 3)) :: .r 5 (.bin .geq (.t 4) (.c (.d (.int .i64 2)))) :: .r 6 (.mv (.t 5)) :: gapp [7, 8] 6 true (.r 7 (.mv (.t 0)) :: .c 8 (.f 141) [.t 7] :: []) (.r 9 (.pick (.t 6) (.t 8) (.c (.d (.bool false)))) :: .r 2 (.mv (.t 9)) :: [])))
  .ret))
theorem fit_interchangeref2_IsTag : fits Tryd.prog 105 Tryd.f105 sc_interchangeref2_IsTag [.t 2] 1 = true := by kernel_rfl

def sc_interchangeref2_checkElement_L1 : SC :=
  (.seq (.seq (.reg [.r 35 (.mv (.t 4)),
     .r 36 (.fld 0 (.t 1)),
     .o 37 (.ld1 (.t 36)),
     .r 38 (.mv (.t 3)),
     .r 39 (.idx 1 (.t 37) (.t 38)),
     .o 40 (.ld1 (.t 39)),
     .r 41 (.len (.t 40)),
     .r 42 (.bin .lss (.t 35) (.t 41))])
  (.cond (.t 42)
    .skip
    (.exit 2)))
  (.seq (.block 3 (.seq (.reg [.r 45 (.fld 0 (.t 1)),
       .o 46 (.ld1 (.t 45)),
       .r 47 (.mv (.t 3)),
       .r 48 (.idx 1 (.t 46) (.t 47)),
       .o 49 (.ld1 (.t 48)),
       .r 50 (.mv (.t 4)),
       .r 51 (.idx 1 (.t 49) (.t 50)),
       .o 52 (.ld1 (.t 51)),
       .c 53 (.f 49) [.t 52],
       .r 5 (.mv (.t 53))])
    (.seq (.reg [.r 54 (.mv (.t 5)),
       .r 55 (.bin .neq (.t 54) (.c (.d (.int .i64 0))))])
    (.cond (.t 55)
      (.seq (.reg [.r 56 (.mv (.t 5)),
         .r 2 (.mv (.t 56))])
      .ret)
      .skip))))
  (.reg [.r 43 (.mv (.t 4)),
     .r 44 (.bin .add (.t 43) (.c (.d (.int .i64 1)))),
     .r 4 (.mv (.t 44))])))
def sc_interchangeref2_checkElement_B1 : SC := .block 2 (.loop sc_interchangeref2_checkElement_L1)
def sc_interchangeref2_checkElement_L2 : SC :=
  (.seq (.seq (.reg [.r 14 (.mv (.t 3)),
     .r 15 (.fld 0 (.t 1)),
     .o 16 (.ld1 (.t 15)),
     .r 17 (.len (.t 16)),
     .r 18 (.bin .lss (.t 14) (.t 17))])
  (.cond (.t 18)
    .skip
    (.exit 0)))
  (.seq (.block 1 (.seq (.seq (.reg [.r 21 (.fld 0 (.t 1)),
       .o 22 (.ld1 (.t 21)),
       .r 23 (.mv (.t 3)),
       .r 24 (.idx 1 (.t 22) (.t 23)),
       .o 25 (.ld1 (.t 24)),
       .r 26 (.len (.t 25)),
       .r 27 (.bin .eql (.t 26) (.c (.d (.int .i64 0))))])
    (.cond (.t 27)
      (.seq (.reg [.r 2 (.mv (.c (.d (.int .i64 9))))])
      .ret)
      .skip))
    (.seq (.seq (.reg [.r 28 (.fld 0 (.t 1)),
       .o 29 (.ld1 (.t 28)),
       .r 30 (.mv (.t 3)),
       .r 31 (.idx 1 (.t 29) (.t 30)),
       .o 32 (.ld1 (.t 31)),
       .r 33 (.len (.t 32)),
       .r 34 (.bin .gtr (.t 33) (.c (.d (.int .i64 20))))])
    (.cond (.t 34)
      (.seq (.reg [.r 2 (.mv (.c (.d (.int .i64 2))))])
      .ret)
      .skip))
    (.seq (.reg [.r 4 (.mv (.c (.d (.int .i64 0))))])
    sc_interchangeref2_checkElement_B1))))
  (.reg [.r 19 (.mv (.t 3)),
     .r 20 (.bin .add (.t 19) (.c (.d (.int .i64 1)))),
     .r 3 (.mv (.t 20))])))
def sc_interchangeref2_checkElement_B2 : SC := .block 0 (.loop sc_interchangeref2_checkElement_L2)
/-- interchange/interchangeref2.checkElement -/
def sc_interchangeref2_checkElement : SC :=
  (.seq (.reg [.r 1 (.boxI (.t 0)),
     .r 2 (.mv (.c (.d (.int .i64 0))))])
  (.seq (.seq (.reg [.r 6 (.fld 0 (.t 1)),
     .o 7 (.ld1 (.t 6)),
     .r 8 (.len (.t 7)),
     .r 9 (.bin .eql (.t 8) (.c (.d (.int .i64 0))))])
  (.cond (.t 9)
    (.seq (.reg [.r 2 (.mv (.c (.d (.int .i64 9))))])
    .ret)
    .skip))
  (.seq (.seq (.reg [.r 10 (.fld 0 (.t 1)),
     .o 11 (.ld1 (.t 10)),
     .r 12 (.len (.t 11)),
     .r 13 (.bin .gtr (.t 12) (.c (.d (.int .i64 20))))])
  (.cond (.t 13)
    (.seq (.reg [.r 2 (.mv (.c (.d (.int .i64 2))))])
    .ret)
    .skip))
  (.seq (.seq (.reg [.r 3 (.mv (.c (.d (.int .i64 0))))])
  sc_interchangeref2_checkElement_B2)
  (.seq (.reg [.r 2 (.mv (.c (.d (.int .i64 0))))])
  .ret)))))
theorem fit_interchangeref2_checkElement : fits Tryd.prog 106 Tryd.f106 sc_interchangeref2_checkElement [.t 2] 1 = true := by kernel_rfl

set_option maxRecDepth 100000 in
set_option maxHeartbeats 40000000 in
noncomputable def sims_G1_1_0 : (∀ (x0 : List UInt8), {m : Option (Bool) // ∀ r, m = some r → PureSpec Tryd.prog 101 [.str x0] (.bool r)}) × (∀ (x0 : List UInt8) (x1 : UInt8), {m : Option (Bool) // ∀ r, m = some r → PureSpec Tryd.prog 108 [.slice (List.map rowY x0), .int .u8 (x1).toNat] (.bool r)}) × (∀ (x0 : List UInt8), {m : Option (Bool) // ∀ r, m = some r → PureSpec Tryd.prog 83 [.str x0] (.bool r)}) × (∀ (x0 : List UInt8), {m : Option (Bool) // ∀ r, m = some r → PureSpec Tryd.prog 105 [.str x0] (.bool r)}) × (∀ (x0 : Tapi_Element), {m : Option (Int) // ∀ r, m = some r → PureSpec Tryd.prog 106 [.agg (rTapi_Element x0)] (.int .i64 r)}) := by
  refine ⟨?g0, ?g1, ?g2, ?g3, ?g4⟩
  case' g0 => (intro x0; apply Subtype.mk; intro r hm; apply pure_walk Tryd.func101 fit_kit_IsTagPart; unfold sc_kit_IsTagPart)
  case' g1 => (intro x0 x1; apply Subtype.mk; intro r hm; apply pure_walk Tryd.func108 fit_slices_Contains_byte_byte; unfold sc_slices_Contains_byte_byte)
  case' g2 => (intro x0; apply Subtype.mk; intro r hm; apply pure_walk Tryd.func83 fit_kit_IsText; unfold sc_kit_IsText)
  case' g3 => (intro x0; apply Subtype.mk; intro r hm; apply pure_walk Tryd.func105 fit_interchangeref2_IsTag; unfold sc_interchangeref2_IsTag)
  case' g4 => (intro x0; apply Subtype.mk; intro r hm; apply pure_walk Tryd.func106 fit_interchangeref2_checkElement; unfold sc_interchangeref2_checkElement)
  all_goals (repeat' (first | with_reducible refine W_seq ?_ | with_reducible refine W_reg ?_ | with_reducible refine W_block ?_ | with_reducible refine W_skip ?_ | with_reducible refine W_ret ?_ | with_reducible refine W_exit ?_ | with_reducible refine O_nil ?_ | with_reducible refine K_seq ?_ | with_reducible refine K_seqE ?_ | with_reducible refine K_seqR ?_ | with_reducible refine K_block ?_ | with_reducible refine K_blockR ?_ | with_reducible refine K_blockE ?_ | ((with_reducible apply K_blockN); decide) | with_reducible refine O_o2r ?_ | ((with_reducible apply O_idxr hm); (iterate 2 (simp only [push_cast, seval]; rfl)); (intro _; rfl); intro e hm) | ((with_reducible apply O_idxVr hm); (iterate 3 (simp only [push_cast, seval]; rfl)); intro e hm) | ((with_reducible apply O_r); (simp only [push_cast, seval]; rfl); (first | exact trivial | omega)) | ((with_reducible apply O_ldV1r hm); (iterate 2 (simp only [push_cast, seval]; rfl)); (intro _; rfl); intro e hm) | ((with_reducible apply O_strr hm); (iterate 2 (simp only [push_cast, seval]; rfl)); intro hm) | ((with_reducible apply O_and hm); (simp only [push_cast, seval]; rfl); rfl; intro v hm; rotate_left; intro v g hm) | ((with_reducible apply W_condT); (focus (simp only [push_cast, seval]; done))) | ((with_reducible apply W_condF); (focus (simp only [push_cast, seval]; done))) | ((with_reducible apply O_cS hm); (simp only [push_cast, seval]; rfl); (focus (first | exact spec_strings_Trim _ _ | exact spec_slices_Index_byte_byte _ _ | exact spec_kit_InBytes _ _ _ | exact spec_interchangeref2_beginsTag _ | exact spec_interchangeref2_checkText _)); intro x hm) | ((with_reducible apply O_cF hm); (simp only [push_cast, seval]; rfl); (first | apply spec_strings_Trim _ _ | apply spec_slices_Index_byte_byte _ _ | apply spec_kit_InBytes _ _ _ | apply spec_interchangeref2_beginsTag _ | apply spec_interchangeref2_checkText _); (any_goals ((repeat' (first | rfl | (with_reducible first | apply fT_Tapi_Marks | apply fT_Tapi_Element | apply fT_Tapi_Segment | apply f_optN | apply f_optS | apply f_some | apply f_tup | apply f_agg | apply f_ptr | apply f_fn | apply dv_slice | apply sv_d | apply f_cons | apply fold_nil | apply fold_cons | apply fold_app | apply f_rowI | apply f_rowY | apply f_rowS | apply f_rowB | apply f_rowL) | (with_reducible apply f_byte; decide))); done)); intro x hm) | ((with_reducible apply S_condB hm); (simp only [push_cast, seval]; rfl); intro hm; rotate_left; intro hm) | ((with_reducible apply K_endS hm); (focus (simp only [resOf, resL, RV.get, push_cast, seval]; rfl)); (focus ((repeat' (first | rfl | (with_reducible first | apply fT_Tapi_Marks | apply fT_Tapi_Element | apply fT_Tapi_Segment | apply f_optN | apply f_optS | apply f_some | apply f_tup | apply f_agg | apply f_ptr | apply f_fn | apply dv_slice | apply sv_d | apply f_cons | apply fold_nil | apply fold_cons | apply fold_app | apply f_rowI | apply f_rowY | apply f_rowS | apply f_rowB | apply f_rowL) | (with_reducible apply f_byte; decide))); done))) | ((with_reducible apply K_bool hm); (simp only [push_cast, seval]; rfl)) | ((with_reducible apply K_leave hm); intro r hm) | ((with_reducible apply K_leaveR hm); intro r hm) | ((apply S_loopY (b := 2) (X := sc_interchangeref2_checkElement_B1) (x := sc_interchangeref2_checkElement_L1) rfl (fun (c : SV × SV) (s : Int) => st [(1, c.1), (3, c.2), (4, .d (.int .i64 s))] []) (c := (_, _)) (s0 := _) hm); (focus (first | (dsimp only; done) | (dsimp only; rfl) | rfl)); (with_reducible refine Then.mk ?_ ?_)) | ((apply S_loopY (b := 0) (X := sc_interchangeref2_checkElement_B2) (x := sc_interchangeref2_checkElement_L2) rfl (fun (c : SV) (s : Int) => st [(1, c), (3, .d (.int .i64 s))] []) (c := _) (s0 := _) hm); (focus (first | (dsimp only; done) | (dsimp only; rfl) | rfl)); (with_reducible refine Then.mk ?_ ?_)) | ((apply K_next (s' := _) hm); (focus (first | (dsimp only; done) | (dsimp only; rfl) | rfl))) | ((apply K_brk (s' := _) hm); (focus (first | (dsimp only; done) | (dsimp only; rfl) | rfl))) | (((with_reducible apply K_brkN hm); (focus decide); intro r hm)) | (((with_reducible apply K_brkR hm); intro r hm)) | (((with_reducible apply LoopB.of); (focus (first | (dsimp only; done) | (dsimp only; rfl) | rfl)); (focus ((intro _; repeat' (first | with_reducible exact impC_end | with_reducible exact impC_endF | with_reducible refine impC_seq ?_ | with_reducible refine impC_block ?_ | ((with_reducible refine impC_rnd ?_); intro _) | ((with_reducible refine impC_brk ?_); intro _))))); (intro s o hm; first | unfold sc_interchangeref2_checkElement_L1 | unfold sc_interchangeref2_checkElement_L2); rotate_left; intro s hm)) | (((apply imp_stT; (repeat' (first | with_reducible exact keepT_nil | with_reducible exact keepC_nil | with_reducible apply keepT_cons | with_reducible apply keepC_cons | ((with_reducible apply svle_eq); (focus (first | (simp only [push_cast, seval]; rfl) | rfl)); (focus ((repeat' (first | rfl | (with_reducible first | apply fT_Tapi_Marks | apply fT_Tapi_Element | apply fT_Tapi_Segment | apply f_optN | apply f_optS | apply f_some | apply f_tup | apply f_agg | apply f_ptr | apply f_fn | apply dv_slice | apply sv_d | apply f_cons | apply fold_nil | apply fold_cons | apply fold_app | apply f_rowI | apply f_rowY | apply f_rowS | apply f_rowB | apply f_rowL) | (with_reducible apply f_byte; decide))); done))) | ((with_reducible apply svle_td); (focus (first | (simp only [push_cast, seval]; rfl) | rfl)); (focus (first | (simp only [push_cast, seval]; rfl) | rfl)); (focus ((repeat' (first | rfl | (with_reducible first | apply fT_Tapi_Marks | apply fT_Tapi_Element | apply fT_Tapi_Segment | apply f_optN | apply f_optS | apply f_some | apply f_tup | apply f_agg | apply f_ptr | apply f_fn | apply dv_slice | apply sv_d | apply f_cons | apply fold_nil | apply fold_cons | apply fold_app | apply f_rowI | apply f_rowY | apply f_rowS | apply f_rowB | apply f_rowL) | (with_reducible apply f_byte; decide))); done))) | ((with_reducible apply chle_eq); (focus (first | (simp only [push_cast, seval]; rfl) | rfl)); (first | with_reducible exact chle_rfl rfl | with_reducible exact chle_map0 | with_reducible apply chle_vec | with_reducible apply chle_box)) | (with_reducible first | apply cT_Tapi_Marks | apply cT_Tapi_Element | apply cT_Tapi_Segment | apply r_shS | apply r_shI | apply r_rflO | apply r_oneO | apply r_appO | apply r_nilO | apply c_ownN | apply c_ownL | apply vc_rfl | apply vc_nil | apply vc_cons | apply r_rfl | apply r_rows | apply r_nil | apply r_app | apply r_cons | apply c_rowI | apply c_rowY | apply c_rowS | apply c_rowB | apply c_rowL))); done)))))
noncomputable def m_kit_IsTagPart (x0 : List UInt8) : Option (Bool) := (sims_G1_1_0.1 x0).1
theorem spec_kit_IsTagPart (x0 : List UInt8) : ∀ r, m_kit_IsTagPart x0 = some r → PureSpec Tryd.prog 101 [.str x0] (.bool r) := (sims_G1_1_0.1 x0).2
noncomputable def m_slices_Contains_byte_byte (x0 : List UInt8) (x1 : UInt8) : Option (Bool) := (sims_G1_1_0.2.1 x0 x1).1
theorem spec_slices_Contains_byte_byte (x0 : List UInt8) (x1 : UInt8) : ∀ r, m_slices_Contains_byte_byte x0 x1 = some r → PureSpec Tryd.prog 108 [.slice (List.map rowY x0), .int .u8 (x1).toNat] (.bool r) := (sims_G1_1_0.2.1 x0 x1).2
noncomputable def m_kit_IsText (x0 : List UInt8) : Option (Bool) := (sims_G1_1_0.2.2.1 x0).1
theorem spec_kit_IsText (x0 : List UInt8) : ∀ r, m_kit_IsText x0 = some r → PureSpec Tryd.prog 83 [.str x0] (.bool r) := (sims_G1_1_0.2.2.1 x0).2
noncomputable def m_interchangeref2_IsTag (x0 : List UInt8) : Option (Bool) := (sims_G1_1_0.2.2.2.1 x0).1
theorem spec_interchangeref2_IsTag (x0 : List UInt8) : ∀ r, m_interchangeref2_IsTag x0 = some r → PureSpec Tryd.prog 105 [.str x0] (.bool r) := (sims_G1_1_0.2.2.2.1 x0).2
noncomputable def m_interchangeref2_checkElement (x0 : Tapi_Element) : Option (Int) := (sims_G1_1_0.2.2.2.2 x0).1
theorem spec_interchangeref2_checkElement (x0 : Tapi_Element) : ∀ r, m_interchangeref2_checkElement x0 = some r → PureSpec Tryd.prog 106 [.agg (rTapi_Element x0)] (.int .i64 r) := (sims_G1_1_0.2.2.2.2 x0).2

/-- interchange/wire.isMarkByte -/
def sc_wire_isMarkByte : SC :=
  (.seq (.reg [.r 2 (.mv (.c (.d (.bool false))))])
  (.seq (.reg [.r 4 (.mv (.t 0)),
     .r 5 (.cvis (.t 4)),
     .r 3 (.mv (.t 5))])
  (.seq (.reg (.r 6 (.mv (.t 0)) :: .r 7 (.bin .geq (.t 6) (.c (.d (.int .u8 33)))) :: .r 8 (.mv (.t 7)) :: gapp [9, 10] 8 true (.r 9 (.mv (.t 0)) :: .r 10 (.bin .leq (.t 9) (.c (.d (.int .u8 126)))) :: []) (.r 11 (.pick (.t 8) (.t 10) (.c (.d (.bool false)))) :: .r 12 (.mv (.t 11)) :: gapp [13, 14, 15] 12 true (.r 13 (.mv (.t 3)) :: .c 14 (.f 101) [.t 13] :: .r 15 (.not (.t 14)) :: []) (.r 16 (.pick (.t 12) (.t 15) (.c (.d (.bool false)))) :: .r 17 (.mv (.t 16)) :: gapp [18, 19, 20] 17 true (.r 18 (.mv (.t 3)) :: .c 19 (.f 109) [.t 18, .c (.d (.int .u8 97)), .c (.d (.int .u8 122))] :: .r 20 (.not (.t 19)) :: []) (.r 21 (.pick (.t 17) (.t 20) (.c (.d (.bool false)))) :: .r 22 (.mv (.t 21)) :: gapp [23, 24, 25] 22 true (.r 23 (.mv (.t 3)) :: .c 24 (.f 142) [.t 23, .c (.d (.str [46, 45, 43, 95]))] :: .r 25 (.not (.t 24)) :: []) (.r 26 (.pick (.t 22) (.t 25) (.c (.d (.bool false)))) :: .r 2 (.mv (.t 26)) :: []))))))
  .ret)))
theorem fit_wire_isMarkByte : fits Tryd.prog 107 Tryd.f107 sc_wire_isMarkByte [.t 2] 1 = true := by kernel_rfl

/-- interchange/kit.IsTag -/
def sc_kit_IsTag : SC :=
  (.seq (.reg [.r 2 (.mv (.c (.d (.bool false))))])
  (.seq (.reg (.r 3 (.mv (.t 0)) :: .r 4 (.lenT (.t 3)) :: .r 5 (.bin .geq (.t 4) (.c (.d (.int .i64 2)))) :: .r 6 (.mv (.t 5)) :: gapp [7, 8, 9] 6 true (.r 7 (.mv (.t 0)) :: .r 8 (.lenT (.t 7)) :: .r 9 (.bin .leq (.t 8) (.c (.d (.int .i64 6)))) :: []) (.r 10 (.pick (.t 6) (.t 9) (.c (.d (.bool false)))) :: .r 11 (.mv (.t 10)) :: gapp [12, 13, 14, 15] 11 true (.r 12 (.mv (.t 0)) :: .r 13 (.sidx (.t 12) (.c (.d (.int .i64 0)))) :: .c 14 (.f 100) [.c (.d (.str [65, 66, 67, 68, 69, 70, 71, 72, 73, 74, 75, 76, 77, 78, 79, 80, 81, 82, 83, 84, 85, 86, 87, 88, 89, 90])), .t 13] :: .r 15 (.bin .geq (.t 14) (.c (.d (.int .i64 0)))) :: []) (.r 16 (.pick (.t 11) (.t 15) (.c (.d (.bool false)))) :: .r 17 (.mv (.t 16)) :: gapp [18, 19] 17 true (.r 18 (.mv (.t 0)) :: .c 19 (.f 101) [.t 18] :: []) (.r 20 (.pick (.t 17) (.t 19) (.c (.d (.bool false)))) :: .r 2 (.mv (.t 20)) :: [])))))
  .ret))
theorem fit_kit_IsTag : fits Tryd.prog 75 Tryd.f75 sc_kit_IsTag [.t 2] 1 = true := by kernel_rfl

/-- interchange/wire.textFault -/
def sc_wire_textFault : SC :=
  (.seq (.reg [.r 2 (.mv (.c (.d (.int .i64 0))))])
  (.seq (.seq (.reg [.r 3 (.mv (.t 0)),
     .r 4 (.lenT (.t 3)),
     .r 5 (.bin .gtr (.t 4) (.c (.d (.int .i64 1000))))])
  (.cond (.t 5)
    (.seq (.reg [.r 2 (.mv (.c (.d (.int .i64 2))))])
    .ret)
    .skip))
  (.seq (.seq (.reg [.r 6 (.mv (.t 0)),
     .c 7 (.f 83) [.t 6],
     .r 8 (.not (.t 7))])
  (.cond (.t 8)
    (.seq (.reg [.r 2 (.mv (.c (.d (.int .i64 3))))])
    .ret)
    .skip))
  (.seq (.reg [.r 2 (.mv (.c (.d (.int .i64 0))))])
  .ret))))
theorem fit_wire_textFault : fits Tryd.prog 47 Tryd.f47 sc_wire_textFault [.t 2] 1 = true := by kernel_rfl

def sc_interchangeref2_CheckOne_L1 : SC :=
  (.seq (.seq (.reg [.r 13 (.mv (.t 3)),
     .r 14 (.fld 1 (.t 1)),
     .o 15 (.ld1 (.t 14)),
     .r 16 (.len (.t 15)),
     .r 17 (.bin .lss (.t 13) (.t 16))])
  (.cond (.t 17)
    .skip
    (.exit 0)))
  (.seq (.block 1 (.seq (.reg [.r 20 (.fld 1 (.t 1)),
       .o 21 (.ld1 (.t 20)),
       .r 22 (.mv (.t 3)),
       .r 23 (.idx 1 (.t 21) (.t 22)),
       .o 24 (.ldA 1 (.t 23)),
       .c 25 (.f 106) [.t 24],
       .r 4 (.mv (.t 25))])
    (.seq (.reg [.r 26 (.mv (.t 4)),
       .r 27 (.bin .neq (.t 26) (.c (.d (.int .i64 0))))])
    (.cond (.t 27)
      (.seq (.reg [.r 28 (.mv (.t 4)),
         .r 2 (.mv (.t 28))])
      .ret)
      .skip))))
  (.reg [.r 18 (.mv (.t 3)),
     .r 19 (.bin .add (.t 18) (.c (.d (.int .i64 1)))),
     .r 3 (.mv (.t 19))])))
def sc_interchangeref2_CheckOne_B1 : SC := .block 0 (.loop sc_interchangeref2_CheckOne_L1)
/-- interchange/interchangeref2.CheckOne -/
def sc_interchangeref2_CheckOne : SC :=
  (.seq (.reg [.r 1 (.boxI (.t 0)),
     .r 2 (.mv (.c (.d (.int .i64 0))))])
  (.seq (.seq (.reg [.r 5 (.fld 0 (.t 1)),
     .o 6 (.ld1 (.t 5)),
     .c 7 (.f 105) [.t 6],
     .r 8 (.not (.t 7))])
  (.cond (.t 8)
    (.seq (.reg [.r 2 (.mv (.c (.d (.int .i64 5))))])
    .ret)
    .skip))
  (.seq (.seq (.reg [.r 9 (.fld 1 (.t 1)),
     .o 10 (.ld1 (.t 9)),
     .r 11 (.len (.t 10)),
     .r 12 (.bin .gtr (.t 11) (.c (.d (.int .i64 50))))])
  (.cond (.t 12)
    (.seq (.reg [.r 2 (.mv (.c (.d (.int .i64 2))))])
    .ret)
    .skip))
  (.seq (.seq (.reg [.r 3 (.mv (.c (.d (.int .i64 0))))])
  sc_interchangeref2_CheckOne_B1)
  (.seq (.reg [.r 2 (.mv (.c (.d (.int .i64 0))))])
  .ret)))))
theorem fit_interchangeref2_CheckOne : fits Tryd.prog 79 Tryd.f79 sc_interchangeref2_CheckOne [.t 2] 1 = true := by kernel_rfl

set_option maxRecDepth 100000 in
set_option maxHeartbeats 40000000 in
noncomputable def sims_G1_2_0 : (∀ (x0 : UInt8), {m : Option (Bool) // ∀ r, m = some r → PureSpec Tryd.prog 107 [.int .u8 (x0).toNat] (.bool r)}) × (∀ (x0 : List UInt8), {m : Option (Bool) // ∀ r, m = some r → PureSpec Tryd.prog 75 [.str x0] (.bool r)}) × (∀ (x0 : List UInt8), {m : Option (Int) // ∀ r, m = some r → PureSpec Tryd.prog 47 [.str x0] (.int .i64 r)}) × (∀ (x0 : Tapi_Segment), {m : Option (Int) // ∀ r, m = some r → PureSpec Tryd.prog 79 [.agg (rTapi_Segment x0)] (.int .i64 r)}) := by
  refine ⟨?g0, ?g1, ?g2, ?g3⟩
  case' g0 => (intro x0; apply Subtype.mk; intro r hm; apply pure_walk Tryd.func107 fit_wire_isMarkByte; unfold sc_wire_isMarkByte)
  case' g1 => (intro x0; apply Subtype.mk; intro r hm; apply pure_walk Tryd.func75 fit_kit_IsTag; unfold sc_kit_IsTag)
  case' g2 => (intro x0; apply Subtype.mk; intro r hm; apply pure_walk Tryd.func47 fit_wire_textFault; unfold sc_wire_textFault)
  case' g3 => (intro x0; apply Subtype.mk; intro r hm; apply pure_walk Tryd.func79 fit_interchangeref2_CheckOne; unfold sc_interchangeref2_CheckOne)
  all_goals (repeat' (first | with_reducible refine W_seq ?_ | with_reducible refine W_reg ?_ | with_reducible refine W_block ?_ | with_reducible refine W_skip ?_ | with_reducible refine W_ret ?_ | with_reducible refine W_exit ?_ | with_reducible refine O_nil ?_ | with_reducible refine K_seq ?_ | with_reducible refine K_seqE ?_ | with_reducible refine K_seqR ?_ | with_reducible refine K_block ?_ | with_reducible refine K_blockR ?_ | with_reducible refine K_blockE ?_ | ((with_reducible apply K_blockN); decide) | with_reducible refine O_o2r ?_ | ((with_reducible apply O_idxr hm); (iterate 2 (simp only [push_cast, seval]; rfl)); (intro _; rfl); intro e hm) | ((with_reducible apply O_idxVr hm); (iterate 3 (simp only [push_cast, seval]; rfl)); intro e hm) | ((with_reducible apply O_sidxr hm); (iterate 2 (simp only [push_cast, seval]; rfl)); intro e hm) | ((with_reducible apply O_r); (simp only [push_cast, seval]; rfl); (first | exact trivial | omega)) | ((with_reducible apply O_ldV1r hm); (iterate 2 (simp only [push_cast, seval]; rfl)); (intro _; rfl); intro e hm) | ((with_reducible apply O_strr hm); (iterate 2 (simp only [push_cast, seval]; rfl)); intro hm) | ((with_reducible apply O_and hm); (simp only [push_cast, seval]; rfl); rfl; intro v hm; rotate_left; intro v g hm) | ((with_reducible apply W_condT); (focus (simp only [push_cast, seval]; done))) | ((with_reducible apply W_condF); (focus (simp only [push_cast, seval]; done))) | ((with_reducible apply O_cS hm); (simp only [push_cast, seval]; rfl); (focus (first | exact spec_kit_IsTagPart _ | exact spec_kit_InBytes _ _ _ | exact spec_strings_ContainsAny _ _ | exact spec_strings_IndexByte _ _ | exact spec_kit_IsText _ | exact spec_interchangeref2_IsTag _ | exact spec_interchangeref2_checkElement _)); intro x hm) | ((with_reducible apply O_cF hm); (simp only [push_cast, seval]; rfl); (first | apply spec_kit_IsTagPart _ | apply spec_kit_InBytes _ _ _ | apply spec_strings_ContainsAny _ _ | apply spec_strings_IndexByte _ _ | apply spec_kit_IsText _ | apply spec_interchangeref2_IsTag _ | apply spec_interchangeref2_checkElement _); (any_goals ((repeat' (first | rfl | (with_reducible first | apply fT_Tapi_Marks | apply fT_Tapi_Element | apply fT_Tapi_Segment | apply f_optN | apply f_optS | apply f_some | apply f_tup | apply f_agg | apply f_ptr | apply f_fn | apply dv_slice | apply sv_d | apply f_cons | apply fold_nil | apply fold_cons | apply fold_app | apply f_rowI | apply f_rowY | apply f_rowS | apply f_rowB | apply f_rowL) | (with_reducible apply f_byte; decide))); done)); intro x hm) | ((with_reducible apply S_condB hm); (simp only [push_cast, seval]; rfl); intro hm; rotate_left; intro hm) | ((with_reducible apply K_endS hm); (focus (simp only [resOf, resL, RV.get, push_cast, seval]; rfl)); (focus ((repeat' (first | rfl | (with_reducible first | apply fT_Tapi_Marks | apply fT_Tapi_Element | apply fT_Tapi_Segment | apply f_optN | apply f_optS | apply f_some | apply f_tup | apply f_agg | apply f_ptr | apply f_fn | apply dv_slice | apply sv_d | apply f_cons | apply fold_nil | apply fold_cons | apply fold_app | apply f_rowI | apply f_rowY | apply f_rowS | apply f_rowB | apply f_rowL) | (with_reducible apply f_byte; decide))); done))) | ((with_reducible apply K_bool hm); (simp only [push_cast, seval]; rfl)) | ((with_reducible apply K_leave hm); intro r hm) | ((with_reducible apply K_leaveR hm); intro r hm) | ((apply S_loopY (b := 0) (X := sc_interchangeref2_CheckOne_B1) (x := sc_interchangeref2_CheckOne_L1) rfl (fun (c : SV) (s : Int) => st [(1, c), (3, .d (.int .i64 s))] []) (c := _) (s0 := _) hm); (focus (first | (dsimp only; done) | (dsimp only; rfl) | rfl)); (with_reducible refine Then.mk ?_ ?_)) | ((apply K_next (s' := _) hm); (focus (first | (dsimp only; done) | (dsimp only; rfl) | rfl))) | ((apply K_brk (s' := _) hm); (focus (first | (dsimp only; done) | (dsimp only; rfl) | rfl))) | (((with_reducible apply K_brkN hm); (focus decide); intro r hm)) | (((with_reducible apply K_brkR hm); intro r hm)) | (((with_reducible apply LoopB.of); (focus (first | (dsimp only; done) | (dsimp only; rfl) | rfl)); (focus ((intro _; repeat' (first | with_reducible exact impC_end | with_reducible exact impC_endF | with_reducible refine impC_seq ?_ | with_reducible refine impC_block ?_ | ((with_reducible refine impC_rnd ?_); intro _) | ((with_reducible refine impC_brk ?_); intro _))))); (intro s o hm; first | unfold sc_interchangeref2_CheckOne_L1); rotate_left; intro s hm)) | (((apply imp_stT; (repeat' (first | with_reducible exact keepT_nil | with_reducible exact keepC_nil | with_reducible apply keepT_cons | with_reducible apply keepC_cons | ((with_reducible apply svle_eq); (focus (first | (simp only [push_cast, seval]; rfl) | rfl)); (focus ((repeat' (first | rfl | (with_reducible first | apply fT_Tapi_Marks | apply fT_Tapi_Element | apply fT_Tapi_Segment | apply f_optN | apply f_optS | apply f_some | apply f_tup | apply f_agg | apply f_ptr | apply f_fn | apply dv_slice | apply sv_d | apply f_cons | apply fold_nil | apply fold_cons | apply fold_app | apply f_rowI | apply f_rowY | apply f_rowS | apply f_rowB | apply f_rowL) | (with_reducible apply f_byte; decide))); done))) | ((with_reducible apply svle_td); (focus (first | (simp only [push_cast, seval]; rfl) | rfl)); (focus (first | (simp only [push_cast, seval]; rfl) | rfl)); (focus ((repeat' (first | rfl | (with_reducible first | apply fT_Tapi_Marks | apply fT_Tapi_Element | apply fT_Tapi_Segment | apply f_optN | apply f_optS | apply f_some | apply f_tup | apply f_agg | apply f_ptr | apply f_fn | apply dv_slice | apply sv_d | apply f_cons | apply fold_nil | apply fold_cons | apply fold_app | apply f_rowI | apply f_rowY | apply f_rowS | apply f_rowB | apply f_rowL) | (with_reducible apply f_byte; decide))); done))) | ((with_reducible apply chle_eq); (focus (first | (simp only [push_cast, seval]; rfl) | rfl)); (first | with_reducible exact chle_rfl rfl | with_reducible exact chle_map0 | with_reducible apply chle_vec | with_reducible apply chle_box)) | (with_reducible first | apply cT_Tapi_Marks | apply cT_Tapi_Element | apply cT_Tapi_Segment | apply r_shS | apply r_shI | apply r_rflO | apply r_oneO | apply r_appO | apply r_nilO | apply c_ownN | apply c_ownL | apply vc_rfl | apply vc_nil | apply vc_cons | apply r_rfl | apply r_rows | apply r_nil | apply r_app | apply r_cons | apply c_rowI | apply c_rowY | apply c_rowS | apply c_rowB | apply c_rowL))); done)))))
noncomputable def m_wire_isMarkByte (x0 : UInt8) : Option (Bool) := (sims_G1_2_0.1 x0).1
theorem spec_wire_isMarkByte (x0 : UInt8) : ∀ r, m_wire_isMarkByte x0 = some r → PureSpec Tryd.prog 107 [.int .u8 (x0).toNat] (.bool r) := (sims_G1_2_0.1 x0).2
noncomputable def m_kit_IsTag (x0 : List UInt8) : Option (Bool) := (sims_G1_2_0.2.1 x0).1
theorem spec_kit_IsTag (x0 : List UInt8) : ∀ r, m_kit_IsTag x0 = some r → PureSpec Tryd.prog 75 [.str x0] (.bool r) := (sims_G1_2_0.2.1 x0).2
noncomputable def m_wire_textFault (x0 : List UInt8) : Option (Int) := (sims_G1_2_0.2.2.1 x0).1
theorem spec_wire_textFault (x0 : List UInt8) : ∀ r, m_wire_textFault x0 = some r → PureSpec Tryd.prog 47 [.str x0] (.int .i64 r) := (sims_G1_2_0.2.2.1 x0).2
noncomputable def m_interchangeref2_CheckOne (x0 : Tapi_Segment) : Option (Int) := (sims_G1_2_0.2.2.2 x0).1
theorem spec_interchangeref2_CheckOne (x0 : Tapi_Segment) : ∀ r, m_interchangeref2_CheckOne x0 = some r → PureSpec Tryd.prog 79 [.agg (rTapi_Segment x0)] (.int .i64 r) := (sims_G1_2_0.2.2.2 x0).2

def sc_wire_CheckMarks_L1 : SC :=
  (.seq (.reg [.r 20 (.bin .lss (.t 19) (.t 18))])
  (.seq (.cond (.t 20)
    .skip
    (.exit 0))
  (.seq (.block 1 (.seq (.reg [.r 21 (.idx 1 (.t 17) (.t 19)),
       .o 22 (.ld1 (.t 21)),
       .r 5 (.mv (.t 22))])
    (.seq (.reg [.r 23 (.mv (.t 5)),
       .c 24 (.f 107) [.t 23],
       .r 25 (.not (.t 24))])
    (.cond (.t 25)
      (.seq (.reg [.r 2 (.mv (.c (.d (.int .i64 3))))])
      .ret)
      .skip))))
  (.reg [.r 26 (.bin .add (.t 19) (.c (.d (.int .i64 1)))),
     .r 19 (.mv (.t 26))]))))
def sc_wire_CheckMarks_B1 : SC := .block 0 (.loop sc_wire_CheckMarks_L1)
def sc_wire_CheckMarks_L2 : SC :=
  (.seq (.reg [.r 43 (.bin .lss (.t 42) (.t 41))])
  (.seq (.cond (.t 43)
    .skip
    (.exit 2))
  (.seq (.block 3 (.seq (.reg [.r 44 (.mv (.t 42)),
       .r 45 (.idx 1 (.t 40) (.t 42)),
       .o 46 (.ld1 (.t 45)),
       .r 6 (.mv (.t 44)),
       .r 7 (.mv (.t 46))])
    (.seq (.reg [.r 47 (.mv (.t 3)),
       .r 48 (.mv (.t 6)),
       .r 49 (.mv (.t 3)),
       .r 50 (.len (.t 49)),
       .r 51 (.mins (.t 48) [.t 50]),
       .r 52 (.slc 1 (.t 47) none (some (.t 51))),
       .r 53 (.mv (.t 7)),
       .c 54 (.f 108) [.t 52, .t 53]])
    (.cond (.t 54)
      (.seq (.reg [.r 2 (.mv (.c (.d (.int .i64 7))))])
      .ret)
      .skip))))
  (.reg [.r 55 (.bin .add (.t 42) (.c (.d (.int .i64 1)))),
     .r 42 (.mv (.t 55))]))))
def sc_wire_CheckMarks_B2 : SC := .block 2 (.loop sc_wire_CheckMarks_L2)
/-- interchange/wire.CheckMarks -/
def sc_wire_CheckMarks : SC :=
  (.seq (.reg [.r 1 (.boxI (.t 0)),
     .r 2 (.mv (.c (.d (.int .i64 0))))])
  (.seq (.reg [.r 8 (.fld 0 (.t 1)),
     .o 9 (.ld1 (.t 8)),
     .r 10 (.fld 1 (.t 1)),
     .o 11 (.ld1 (.t 10)),
     .r 12 (.fld 2 (.t 1)),
     .o 13 (.ld1 (.t 12)),
     .r 14 (.fld 4 (.t 1)),
     .o 15 (.ld1 (.t 14)),
     .r 16 (.bslice 1 [.t 9, .t 11, .t 13, .t 15]),
     .r 3 (.mv (.t 16))])
  (.seq (.seq (.reg [.r 17 (.mv (.t 3)),
     .r 18 (.len (.t 17)),
     .r 19 (.mv (.c (.d (.int .i64 0))))])
  sc_wire_CheckMarks_B1)
  (.seq (.seq (.reg (.r 27 (.fld 3 (.t 1)) :: .o 28 (.ld1 (.t 27)) :: .r 29 (.bin .neq (.t 28) (.c (.d (.int .u8 0)))) :: .r 30 (.mv (.t 29)) :: gapp [31, 32, 33, 34] 30 true (.r 31 (.fld 3 (.t 1)) :: .r 32 (.ld1 (.t 31)) :: .c 33 (.f 107) [.t 32] :: .r 34 (.not (.t 33)) :: []) (.r 35 (.pick (.t 30) (.t 34) (.c (.d (.bool false)))) :: [])))
  (.cond (.t 35)
    (.seq (.reg [.r 2 (.mv (.c (.d (.int .i64 3))))])
    .ret)
    .skip))
  (.seq (.seq (.reg [.r 36 (.mv (.t 3)),
     .r 37 (.fld 3 (.t 1)),
     .o 38 (.ld1 (.t 37)),
     .r 39 (.bslice 1 [.t 38]),
     .w 40 (.app 5 1 (.t 36) (.t 39)),
     .r 41 (.len (.t 40)),
     .r 42 (.mv (.c (.d (.int .i64 0))))])
  sc_wire_CheckMarks_B2)
  (.seq (.reg [.r 2 (.mv (.c (.d (.int .i64 0))))])
  .ret))))))
theorem fit_wire_CheckMarks : fits Tryd.prog 80 Tryd.f80 sc_wire_CheckMarks [.t 2] 1 = true := by kernel_rfl

def sc_wire_elementFault_L1 : SC :=
  (.seq (.reg [.r 32 (.bin .lss (.t 31) (.t 30))])
  (.seq (.cond (.t 32)
    .skip
    (.exit 2))
  (.seq (.block 3 (.seq (.reg [.r 33 (.idx 1 (.t 29) (.t 31)),
       .o 34 (.ld1 (.t 33)),
       .r 6 (.mv (.t 34))])
    (.seq (.reg [.r 35 (.mv (.t 6)),
       .c 36 (.f 47) [.t 35],
       .r 7 (.mv (.t 36))])
    (.seq (.reg [.r 37 (.mv (.t 7)),
       .r 38 (.bin .neq (.t 37) (.c (.d (.int .i64 0))))])
    (.cond (.t 38)
      (.seq (.reg [.r 39 (.mv (.t 7)),
         .r 2 (.mv (.t 39))])
      .ret)
      .skip)))))
  (.reg [.r 40 (.bin .add (.t 31) (.c (.d (.int .i64 1)))),
     .r 31 (.mv (.t 40))]))))
def sc_wire_elementFault_B1 : SC := .block 2 (.loop sc_wire_elementFault_L1)
def sc_wire_elementFault_L2 : SC :=
  (.seq (.reg [.r 20 (.bin .lss (.t 19) (.t 18))])
  (.seq (.cond (.t 20)
    .skip
    (.exit 0))
  (.seq (.block 1 (.seq (.reg [.r 21 (.idx 1 (.t 17) (.t 19)),
       .o 22 (.ld1 (.t 21)),
       .r 4 (.mv (.t 22))])
    (.seq (.seq (.reg [.r 23 (.mv (.t 4)),
       .r 24 (.len (.t 23)),
       .r 25 (.bin .eql (.t 24) (.c (.d (.int .i64 0))))])
    (.cond (.t 25)
      (.seq (.reg [.r 2 (.mv (.c (.d (.int .i64 9))))])
      .ret)
      .skip))
    (.seq (.seq (.reg [.r 26 (.mv (.t 4)),
       .r 27 (.len (.t 26)),
       .r 28 (.bin .gtr (.t 27) (.c (.d (.int .i64 20))))])
    (.cond (.t 28)
      (.seq (.reg [.r 2 (.mv (.c (.d (.int .i64 2))))])
      .ret)
      .skip))
    (.seq (.reg [.r 29 (.mv (.t 4)),
       .r 30 (.len (.t 29)),
       .r 31 (.mv (.c (.d (.int .i64 0))))])
    sc_wire_elementFault_B1)))))
  (.reg [.r 41 (.bin .add (.t 19) (.c (.d (.int .i64 1)))),
     .r 19 (.mv (.t 41))]))))
def sc_wire_elementFault_B2 : SC := .block 0 (.loop sc_wire_elementFault_L2)
/-- interchange/wire.elementFault -/
def sc_wire_elementFault : SC :=
  (.seq (.reg [.r 1 (.boxI (.t 0)),
     .r 2 (.mv (.c (.d (.int .i64 0))))])
  (.seq (.seq (.reg [.r 8 (.fld 0 (.t 1)),
     .o 9 (.ld1 (.t 8)),
     .r 10 (.len (.t 9)),
     .r 11 (.bin .eql (.t 10) (.c (.d (.int .i64 0))))])
  (.cond (.t 11)
    (.seq (.reg [.r 2 (.mv (.c (.d (.int .i64 9))))])
    .ret)
    .skip))
  (.seq (.seq (.reg [.r 12 (.fld 0 (.t 1)),
     .o 13 (.ld1 (.t 12)),
     .r 14 (.len (.t 13)),
     .r 15 (.bin .gtr (.t 14) (.c (.d (.int .i64 20))))])
  (.cond (.t 15)
    (.seq (.reg [.r 2 (.mv (.c (.d (.int .i64 2))))])
    .ret)
    .skip))
  (.seq (.seq (.reg [.r 16 (.fld 0 (.t 1)),
     .o 17 (.ld1 (.t 16)),
     .r 18 (.len (.t 17)),
     .r 19 (.mv (.c (.d (.int .i64 0))))])
  sc_wire_elementFault_B2)
  (.seq (.reg [.r 2 (.mv (.c (.d (.int .i64 0))))])
  .ret)))))
theorem fit_wire_elementFault : fits Tryd.prog 76 Tryd.f76 sc_wire_elementFault [.t 2] 1 = true := by kernel_rfl

def sc_interchangeref2_CheckSegments_L1 : SC :=
  (.seq (.seq (.reg [.r 8 (.mv (.t 3)),
     .r 9 (.mv (.t 0)),
     .r 10 (.len (.t 9)),
     .r 11 (.bin .lss (.t 8) (.t 10))])
  (.cond (.t 11)
    .skip
    (.exit 0)))
  (.seq (.block 1 (.seq (.reg [.r 14 (.mv (.t 0)),
       .r 15 (.mv (.t 3)),
       .r 16 (.idx 2 (.t 14) (.t 15)),
       .o 17 (.ldA 2 (.t 16)),
       .c 18 (.f 79) [.t 17],
       .r 4 (.mv (.t 18))])
    (.seq (.reg [.r 19 (.mv (.t 4)),
       .r 20 (.bin .neq (.t 19) (.c (.d (.int .i64 0))))])
    (.cond (.t 20)
      (.seq (.reg [.r 21 (.mv (.t 4)),
         .r 2 (.mv (.t 21))])
      .ret)
      .skip))))
  (.reg [.r 12 (.mv (.t 3)),
     .r 13 (.bin .add (.t 12) (.c (.d (.int .i64 1)))),
     .r 3 (.mv (.t 13))])))
def sc_interchangeref2_CheckSegments_B1 : SC := .block 0 (.loop sc_interchangeref2_CheckSegments_L1)
/-- interchange/interchangeref2.CheckSegments -/
def sc_interchangeref2_CheckSegments : SC :=
  (.seq (.reg [.r 2 (.mv (.c (.d (.int .i64 0))))])
  (.seq (.seq (.reg [.r 5 (.mv (.t 0)),
     .r 6 (.len (.t 5)),
     .r 7 (.bin .gtr (.t 6) (.c (.d (.int .i64 2000))))])
  (.cond (.t 7)
    (.seq (.reg [.r 2 (.mv (.c (.d (.int .i64 2))))])
    .ret)
    .skip))
  (.seq (.seq (.reg [.r 3 (.mv (.c (.d (.int .i64 0))))])
  sc_interchangeref2_CheckSegments_B1)
  (.seq (.reg [.r 2 (.mv (.c (.d (.int .i64 0))))])
  .ret))))
theorem fit_interchangeref2_CheckSegments : fits Tryd.prog 39 Tryd.f39 sc_interchangeref2_CheckSegments [.t 2] 1 = true := by kernel_rfl

set_option maxRecDepth 100000 in
set_option maxHeartbeats 40000000 in
noncomputable def sims_G1_3_0 : (∀ (x0 : Tapi_Marks), {m : Option (Int) // ∀ r, m = some r → PureSpec Tryd.prog 80 [.agg (rTapi_Marks x0)] (.int .i64 r)}) × (∀ (x0 : Tapi_Element), {m : Option (Int) // ∀ r, m = some r → PureSpec Tryd.prog 76 [.agg (rTapi_Element x0)] (.int .i64 r)}) × (∀ (x0 : List Tapi_Segment), {m : Option (Int) // ∀ r, m = some r → PureSpec Tryd.prog 39 [.slice (List.map rTapi_Segment x0)] (.int .i64 r)}) := by
  refine ⟨?g0, ?g1, ?g2⟩
  case' g0 => (intro x0; apply Subtype.mk; intro r hm; apply pure_walk Tryd.func80 fit_wire_CheckMarks; unfold sc_wire_CheckMarks)
  case' g1 => (intro x0; apply Subtype.mk; intro r hm; apply pure_walk Tryd.func76 fit_wire_elementFault; unfold sc_wire_elementFault)
  case' g2 => (intro x0; apply Subtype.mk; intro r hm; apply pure_walk Tryd.func39 fit_interchangeref2_CheckSegments; unfold sc_interchangeref2_CheckSegments)
  all_goals (repeat' (first | with_reducible refine W_seq ?_ | with_reducible refine W_reg ?_ | with_reducible refine W_block ?_ | with_reducible refine W_skip ?_ | with_reducible refine W_ret ?_ | with_reducible refine W_exit ?_ | with_reducible refine O_nil ?_ | with_reducible refine K_seq ?_ | with_reducible refine K_seqE ?_ | with_reducible refine K_seqR ?_ | with_reducible refine K_block ?_ | with_reducible refine K_blockR ?_ | with_reducible refine K_blockE ?_ | ((with_reducible apply K_blockN); decide) | with_reducible refine O_o2r ?_ | ((with_reducible apply O_idxr hm); (iterate 2 (simp only [push_cast, seval]; rfl)); (intro _; rfl); intro e hm) | ((with_reducible apply O_idxVr hm); (iterate 3 (simp only [push_cast, seval]; rfl)); intro e hm) | ((with_reducible apply O_slcr hm); (iterate 3 (simp only [push_cast, seval]; rfl)); (intro _; rfl); intro e hm) | ((with_reducible apply O_idxLr hm (row := rowY)); (iterate 2 (simp only [push_cast, seval]; rfl)); (focus ((repeat' (first | rfl | (with_reducible first | apply fT_Tapi_Marks | apply fT_Tapi_Element | apply fT_Tapi_Segment | apply f_optN | apply f_optS | apply f_some | apply f_tup | apply f_agg | apply f_ptr | apply f_fn | apply dv_slice | apply sv_d | apply f_cons | apply fold_nil | apply fold_cons | apply fold_app | apply f_rowI | apply f_rowY | apply f_rowS | apply f_rowB | apply f_rowL) | (with_reducible apply f_byte; decide))); done)); (simp only [push_cast, seval]; rfl); (intro _; rfl); intro e hm) | ((with_reducible apply O_slcLr hm (row := rowY)); (iterate 2 (simp only [push_cast, seval]; rfl)); (focus ((repeat' (first | rfl | (with_reducible first | apply fT_Tapi_Marks | apply fT_Tapi_Element | apply fT_Tapi_Segment | apply f_optN | apply f_optS | apply f_some | apply f_tup | apply f_agg | apply f_ptr | apply f_fn | apply dv_slice | apply sv_d | apply f_cons | apply fold_nil | apply fold_cons | apply fold_app | apply f_rowI | apply f_rowY | apply f_rowS | apply f_rowB | apply f_rowL) | (with_reducible apply f_byte; decide))); done)); (iterate 2 (simp only [push_cast, seval]; rfl)); intro e hm) | ((with_reducible apply O_r); (simp only [push_cast, seval]; rfl); (first | exact trivial | omega)) | ((with_reducible apply O_ldV1r hm); (iterate 2 (simp only [push_cast, seval]; rfl)); (intro _; rfl); intro e hm) | ((with_reducible apply O_strr hm); (iterate 2 (simp only [push_cast, seval]; rfl)); intro hm) | ((with_reducible apply O_and hm); (simp only [push_cast, seval]; rfl); rfl; intro v hm; rotate_left; intro v g hm) | ((with_reducible apply W_condT); (focus (simp only [push_cast, seval]; done))) | ((with_reducible apply W_condF); (focus (simp only [push_cast, seval]; done))) | ((with_reducible apply O_cS hm); (simp only [push_cast, seval]; rfl); (focus (first | exact spec_wire_isMarkByte _ | exact spec_slices_Contains_byte_byte _ _ | exact spec_wire_textFault _ | exact spec_interchangeref2_CheckOne _)); intro x hm) | ((with_reducible apply O_cF hm); (simp only [push_cast, seval]; rfl); (first | apply spec_wire_isMarkByte _ | apply spec_slices_Contains_byte_byte _ _ | apply spec_wire_textFault _ | apply spec_interchangeref2_CheckOne _); (any_goals ((repeat' (first | rfl | (with_reducible first | apply fT_Tapi_Marks | apply fT_Tapi_Element | apply fT_Tapi_Segment | apply f_optN | apply f_optS | apply f_some | apply f_tup | apply f_agg | apply f_ptr | apply f_fn | apply dv_slice | apply sv_d | apply f_cons | apply fold_nil | apply fold_cons | apply fold_app | apply f_rowI | apply f_rowY | apply f_rowS | apply f_rowB | apply f_rowL) | (with_reducible apply f_byte; decide))); done)); intro x hm) | ((with_reducible apply O_clS hm); (simp only [push_cast, seval]; rfl); (focus (first | exact spec_wire_isMarkByte _ | exact spec_slices_Contains_byte_byte _ _ | exact spec_wire_textFault _ | exact spec_interchangeref2_CheckOne _)); (intro _; rfl); intro x hm) | ((with_reducible apply O_w); (simp only [push_cast, seval]; rfl); (first | exact trivial | omega)) | ((with_reducible apply O_appL hm (row := rowY)); (iterate 5 (simp only [push_cast, seval]; rfl)); (focus ((repeat' (first | rfl | (with_reducible first | apply fT_Tapi_Marks | apply fT_Tapi_Element | apply fT_Tapi_Segment | apply f_optN | apply f_optS | apply f_some | apply f_tup | apply f_agg | apply f_ptr | apply f_fn | apply dv_slice | apply sv_d | apply f_cons | apply fold_nil | apply fold_cons | apply fold_app | apply f_rowI | apply f_rowY | apply f_rowS | apply f_rowB | apply f_rowL) | (with_reducible apply f_byte; decide))); done)); (focus ((repeat' (first | rfl | (with_reducible first | apply fT_Tapi_Marks | apply fT_Tapi_Element | apply fT_Tapi_Segment | apply f_optN | apply f_optS | apply f_some | apply f_tup | apply f_agg | apply f_ptr | apply f_fn | apply dv_slice | apply sv_d | apply f_cons | apply fold_nil | apply fold_cons | apply fold_app | apply f_rowI | apply f_rowY | apply f_rowS | apply f_rowB | apply f_rowL) | (with_reducible apply f_byte; decide))); done)); rfl; decide; (intro _; rfl); intro hm) | ((with_reducible apply O_appV hm); (iterate 4 (simp only [push_cast, seval]; rfl)); (focus ((repeat' (first | rfl | (with_reducible first | apply fT_Tapi_Marks | apply fT_Tapi_Element | apply fT_Tapi_Segment | apply f_optN | apply f_optS | apply f_some | apply f_tup | apply f_agg | apply f_ptr | apply f_fn | apply dv_slice | apply sv_d | apply f_cons | apply fold_nil | apply fold_cons | apply fold_app | apply f_rowI | apply f_rowY | apply f_rowS | apply f_rowB | apply f_rowL) | (with_reducible apply f_byte; decide))); done)); decide; (intro _; rfl); intro hm) | ((with_reducible apply O_appN hm); (focus (simp only [push_cast, seval]; done)); (iterate 2 (simp only [push_cast, seval]; rfl)); (focus ((repeat' (first | rfl | (with_reducible first | apply fT_Tapi_Marks | apply fT_Tapi_Element | apply fT_Tapi_Segment | apply f_optN | apply f_optS | apply f_some | apply f_tup | apply f_agg | apply f_ptr | apply f_fn | apply dv_slice | apply sv_d | apply f_cons | apply fold_nil | apply fold_cons | apply fold_app | apply f_rowI | apply f_rowY | apply f_rowS | apply f_rowB | apply f_rowL) | (with_reducible apply f_byte; decide))); done)); decide; (intro _; rfl); intro hm) | ((with_reducible apply S_condB hm); (simp only [push_cast, seval]; rfl); intro hm; rotate_left; intro hm) | ((with_reducible apply K_endS hm); (focus (simp only [resOf, resL, RV.get, push_cast, seval]; rfl)); (focus ((repeat' (first | rfl | (with_reducible first | apply fT_Tapi_Marks | apply fT_Tapi_Element | apply fT_Tapi_Segment | apply f_optN | apply f_optS | apply f_some | apply f_tup | apply f_agg | apply f_ptr | apply f_fn | apply dv_slice | apply sv_d | apply f_cons | apply fold_nil | apply fold_cons | apply fold_app | apply f_rowI | apply f_rowY | apply f_rowS | apply f_rowB | apply f_rowL) | (with_reducible apply f_byte; decide))); done))) | ((with_reducible apply K_bool hm); (simp only [push_cast, seval]; rfl)) | ((with_reducible apply K_leave hm); intro r hm) | ((with_reducible apply K_leaveR hm); intro r hm) | ((apply S_loopY (b := 0) (X := sc_wire_CheckMarks_B1) (x := sc_wire_CheckMarks_L1) rfl (fun (c : SV × SV × SV × SV) (s : Int) => st [(1, c.1), (3, c.2.1), (17, c.2.2.1), (18, c.2.2.2), (19, .d (.int .i64 s))] []) (c := (_, _, _, _)) (s0 := _) hm); (focus (first | (dsimp only; done) | (dsimp only; rfl) | rfl)); (with_reducible refine Then.mk ?_ ?_)) | ((apply S_loopY (b := 2) (X := sc_wire_CheckMarks_B2) (x := sc_wire_CheckMarks_L2) rfl (fun (c : SV × Ch × SV) (s : Int) => st [(3, c.1), (40, .vec 40), (41, c.2.2), (42, .d (.int .i64 s))] [(40, c.2.1)]) (c := (_, _, _)) (s0 := _) hm); (focus (first | (dsimp only; done) | (dsimp only; rfl) | rfl)); (with_reducible refine Then.mk ?_ ?_)) | ((apply S_loopY (b := 2) (X := sc_wire_elementFault_B1) (x := sc_wire_elementFault_L1) rfl (fun (c : SV × SV × SV × SV × SV) (s : Int) => st [(17, c.1), (18, c.2.1), (19, c.2.2.1), (29, c.2.2.2.1), (30, c.2.2.2.2), (31, .d (.int .i64 s))] []) (c := (_, _, _, _, _)) (s0 := _) hm); (focus (first | (dsimp only; done) | (dsimp only; rfl) | rfl)); (with_reducible refine Then.mk ?_ ?_)) | ((apply S_loopY (b := 0) (X := sc_wire_elementFault_B2) (x := sc_wire_elementFault_L2) rfl (fun (c : SV × SV) (s : Int) => st [(17, c.1), (18, c.2), (19, .d (.int .i64 s))] []) (c := (_, _)) (s0 := _) hm); (focus (first | (dsimp only; done) | (dsimp only; rfl) | rfl)); (with_reducible refine Then.mk ?_ ?_)) | ((apply S_loopY (b := 0) (X := sc_interchangeref2_CheckSegments_B1) (x := sc_interchangeref2_CheckSegments_L1) rfl (fun (c : SV) (s : Int) => st [(0, c), (3, .d (.int .i64 s))] []) (c := _) (s0 := _) hm); (focus (first | (dsimp only; done) | (dsimp only; rfl) | rfl)); (with_reducible refine Then.mk ?_ ?_)) | ((apply K_next (s' := _) hm); (focus (first | (dsimp only; done) | (dsimp only; rfl) | rfl))) | ((apply K_brk (s' := _) hm); (focus (first | (dsimp only; done) | (dsimp only; rfl) | rfl))) | (((with_reducible apply K_brkN hm); (focus decide); intro r hm)) | (((with_reducible apply K_brkR hm); intro r hm)) | (((with_reducible apply LoopB.of); (focus (first | (dsimp only; done) | (dsimp only; rfl) | rfl)); (focus ((intro _; repeat' (first | with_reducible exact impC_end | with_reducible exact impC_endF | with_reducible refine impC_seq ?_ | with_reducible refine impC_block ?_ | ((with_reducible refine impC_rnd ?_); intro _) | ((with_reducible refine impC_brk ?_); intro _))))); (intro s o hm; first | unfold sc_wire_CheckMarks_L1 | unfold sc_wire_CheckMarks_L2 | unfold sc_wire_elementFault_L1 | unfold sc_wire_elementFault_L2 | unfold sc_interchangeref2_CheckSegments_L1); rotate_left; intro s hm)) | (((apply imp_stT; (repeat' (first | with_reducible exact keepT_nil | with_reducible exact keepC_nil | with_reducible apply keepT_cons | with_reducible apply keepC_cons | ((with_reducible apply svle_eq); (focus (first | (simp only [push_cast, seval]; rfl) | rfl)); (focus ((repeat' (first | rfl | (with_reducible first | apply fT_Tapi_Marks | apply fT_Tapi_Element | apply fT_Tapi_Segment | apply f_optN | apply f_optS | apply f_some | apply f_tup | apply f_agg | apply f_ptr | apply f_fn | apply dv_slice | apply sv_d | apply f_cons | apply fold_nil | apply fold_cons | apply fold_app | apply f_rowI | apply f_rowY | apply f_rowS | apply f_rowB | apply f_rowL) | (with_reducible apply f_byte; decide))); done))) | ((with_reducible apply svle_td); (focus (first | (simp only [push_cast, seval]; rfl) | rfl)); (focus (first | (simp only [push_cast, seval]; rfl) | rfl)); (focus ((repeat' (first | rfl | (with_reducible first | apply fT_Tapi_Marks | apply fT_Tapi_Element | apply fT_Tapi_Segment | apply f_optN | apply f_optS | apply f_some | apply f_tup | apply f_agg | apply f_ptr | apply f_fn | apply dv_slice | apply sv_d | apply f_cons | apply fold_nil | apply fold_cons | apply fold_app | apply f_rowI | apply f_rowY | apply f_rowS | apply f_rowB | apply f_rowL) | (with_reducible apply f_byte; decide))); done))) | ((with_reducible apply chle_eq); (focus (first | (simp only [push_cast, seval]; rfl) | rfl)); (first | with_reducible exact chle_rfl rfl | with_reducible exact chle_map0 | with_reducible apply chle_vec | with_reducible apply chle_box)) | (with_reducible first | apply cT_Tapi_Marks | apply cT_Tapi_Element | apply cT_Tapi_Segment | apply r_shS | apply r_shI | apply r_rflO | apply r_oneO | apply r_appO | apply r_nilO | apply c_ownN | apply c_ownL | apply vc_rfl | apply vc_nil | apply vc_cons | apply r_rfl | apply r_rows | apply r_nil | apply r_app | apply r_cons | apply c_rowI | apply c_rowY | apply c_rowS | apply c_rowB | apply c_rowL))); done)))))
noncomputable def m_wire_CheckMarks (x0 : Tapi_Marks) : Option (Int) := (sims_G1_3_0.1 x0).1
theorem spec_wire_CheckMarks (x0 : Tapi_Marks) : ∀ r, m_wire_CheckMarks x0 = some r → PureSpec Tryd.prog 80 [.agg (rTapi_Marks x0)] (.int .i64 r) := (sims_G1_3_0.1 x0).2
noncomputable def m_wire_elementFault (x0 : Tapi_Element) : Option (Int) := (sims_G1_3_0.2.1 x0).1
theorem spec_wire_elementFault (x0 : Tapi_Element) : ∀ r, m_wire_elementFault x0 = some r → PureSpec Tryd.prog 76 [.agg (rTapi_Element x0)] (.int .i64 r) := (sims_G1_3_0.2.1 x0).2
noncomputable def m_interchangeref2_CheckSegments (x0 : List Tapi_Segment) : Option (Int) := (sims_G1_3_0.2.2 x0).1
theorem spec_interchangeref2_CheckSegments (x0 : List Tapi_Segment) : ∀ r, m_interchangeref2_CheckSegments x0 = some r → PureSpec Tryd.prog 39 [.slice (List.map rTapi_Segment x0)] (.int .i64 r) := (sims_G1_3_0.2.2 x0).2

def sc_wire_CheckSegments_L1 : SC :=
  (.seq (.reg [.r 29 (.bin .lss (.t 28) (.t 27))])
  (.seq (.cond (.t 29)
    .skip
    (.exit 2))
  (.seq (.block 3 (.seq (.reg [.r 30 (.idx 1 (.t 26) (.t 28)),
       .o 31 (.ldA 1 (.t 30)),
       .w 6 (.boxM (.c (.agg [.nils]))),
       .w 0 (.st 1 (.t 6) (.t 31))])
    (.seq (.reg [.o 32 (.ldA 1 (.t 6)),
       .c 33 (.f 76) [.t 32],
       .r 7 (.mv (.t 33))])
    (.seq (.reg [.r 34 (.mv (.t 7)),
       .r 35 (.bin .neq (.t 34) (.c (.d (.int .i64 0))))])
    (.cond (.t 35)
      (.seq (.reg [.r 36 (.mv (.t 7)),
         .r 2 (.mv (.t 36))])
      .ret)
      .skip)))))
  (.reg [.r 37 (.bin .add (.t 28) (.c (.d (.int .i64 1)))),
     .r 28 (.mv (.t 37))]))))
def sc_wire_CheckSegments_B1 : SC := .block 2 (.loop sc_wire_CheckSegments_L1)
def sc_wire_CheckSegments_L2 : SC :=
  (.seq (.reg [.r 14 (.bin .lss (.t 13) (.t 12))])
  (.seq (.cond (.t 14)
    .skip
    (.exit 0))
  (.seq (.block 1 (.seq (.reg [.r 15 (.idx 2 (.t 11) (.t 13)),
       .o 16 (.ldA 2 (.t 15)),
       .w 4 (.boxM (.c (.agg [.d (.str []), .nils]))),
       .w 0 (.st 2 (.t 4) (.t 16))])
    (.seq (.seq (.reg [.r 17 (.fld 0 (.t 4)),
       .o 18 (.ld1 (.t 17)),
       .c 19 (.f 75) [.t 18],
       .r 20 (.not (.t 19))])
    (.cond (.t 20)
      (.seq (.reg [.r 2 (.mv (.c (.d (.int .i64 5))))])
      .ret)
      .skip))
    (.seq (.seq (.reg [.r 21 (.fld 1 (.t 4)),
       .o 22 (.ld1 (.t 21)),
       .r 23 (.len (.t 22)),
       .r 24 (.bin .gtr (.t 23) (.c (.d (.int .i64 50))))])
    (.cond (.t 24)
      (.seq (.reg [.r 2 (.mv (.c (.d (.int .i64 2))))])
      .ret)
      .skip))
    (.seq (.reg [.r 25 (.fld 1 (.t 4)),
       .o 26 (.ld1 (.t 25)),
       .r 27 (.len (.t 26)),
       .r 28 (.mv (.c (.d (.int .i64 0))))])
    sc_wire_CheckSegments_B1)))))
  (.reg [.r 38 (.bin .add (.t 13) (.c (.d (.int .i64 1)))),
     .r 13 (.mv (.t 38))]))))
def sc_wire_CheckSegments_B2 : SC := .block 0 (.loop sc_wire_CheckSegments_L2)
/-- interchange/wire.CheckSegments -/
def sc_wire_CheckSegments : SC :=
  (.seq (.reg [.r 2 (.mv (.c (.d (.int .i64 0))))])
  (.seq (.seq (.reg [.r 8 (.mv (.t 0)),
     .r 9 (.len (.t 8)),
     .r 10 (.bin .gtr (.t 9) (.c (.d (.int .i64 2000))))])
  (.cond (.t 10)
    (.seq (.reg [.r 2 (.mv (.c (.d (.int .i64 2))))])
    .ret)
    .skip))
  (.seq (.seq (.reg [.r 11 (.mv (.t 0)),
     .r 12 (.len (.t 11)),
     .r 13 (.mv (.c (.d (.int .i64 0))))])
  sc_wire_CheckSegments_B2)
  (.seq (.reg [.r 2 (.mv (.c (.d (.int .i64 0))))])
  .ret))))
theorem fit_wire_CheckSegments : fits Tryd.prog 37 Tryd.f37 sc_wire_CheckSegments [.t 2] 1 = true := by kernel_rfl

set_option maxRecDepth 100000 in
set_option maxHeartbeats 40000000 in
noncomputable def sims_G1_4_0 : (∀ (x0 : List Tapi_Segment), {m : Option (Int) // ∀ r, m = some r → PureSpec Tryd.prog 37 [.slice (List.map rTapi_Segment x0)] (.int .i64 r)}) := by
  (intro x0; apply Subtype.mk; intro r hm; apply pure_walk Tryd.func37 fit_wire_CheckSegments; unfold sc_wire_CheckSegments)
  repeat' (first | with_reducible refine W_seq ?_ | with_reducible refine W_reg ?_ | with_reducible refine W_block ?_ | with_reducible refine W_skip ?_ | with_reducible refine W_ret ?_ | with_reducible refine W_exit ?_ | with_reducible refine O_nil ?_ | with_reducible refine K_seq ?_ | with_reducible refine K_seqE ?_ | with_reducible refine K_seqR ?_ | with_reducible refine K_block ?_ | with_reducible refine K_blockR ?_ | with_reducible refine K_blockE ?_ | ((with_reducible apply K_blockN); decide) | with_reducible refine O_o2r ?_ | ((with_reducible apply O_idxr hm); (iterate 2 (simp only [push_cast, seval]; rfl)); (intro _; rfl); intro e hm) | ((with_reducible apply O_idxVr hm); (iterate 3 (simp only [push_cast, seval]; rfl)); intro e hm) | ((with_reducible apply O_r); (simp only [push_cast, seval]; rfl); (first | exact trivial | omega)) | ((with_reducible apply O_ldV1r hm); (iterate 2 (simp only [push_cast, seval]; rfl)); (intro _; rfl); intro e hm) | ((with_reducible apply O_strr hm); (iterate 2 (simp only [push_cast, seval]; rfl)); intro hm) | ((with_reducible apply W_condT); (focus (simp only [push_cast, seval]; done))) | ((with_reducible apply W_condF); (focus (simp only [push_cast, seval]; done))) | ((with_reducible apply O_cS hm); (simp only [push_cast, seval]; rfl); (focus (first | exact spec_kit_IsTag _ | exact spec_wire_elementFault _)); intro x hm) | ((with_reducible apply O_cF hm); (simp only [push_cast, seval]; rfl); (first | apply spec_kit_IsTag _ | apply spec_wire_elementFault _); (any_goals ((repeat' (first | rfl | (with_reducible first | apply fT_Tapi_Marks | apply fT_Tapi_Element | apply fT_Tapi_Segment | apply f_optN | apply f_optS | apply f_some | apply f_tup | apply f_agg | apply f_ptr | apply f_fn | apply dv_slice | apply sv_d | apply f_cons | apply fold_nil | apply fold_cons | apply fold_app | apply f_rowI | apply f_rowY | apply f_rowS | apply f_rowB | apply f_rowL) | (with_reducible apply f_byte; decide))); done)); intro x hm) | ((with_reducible apply O_w); (simp only [push_cast, seval]; rfl); (first | exact trivial | omega)) | ((with_reducible apply S_condB hm); (simp only [push_cast, seval]; rfl); intro hm; rotate_left; intro hm) | ((with_reducible apply K_endS hm); (focus (simp only [resOf, resL, RV.get, push_cast, seval]; rfl)); (focus ((repeat' (first | rfl | (with_reducible first | apply fT_Tapi_Marks | apply fT_Tapi_Element | apply fT_Tapi_Segment | apply f_optN | apply f_optS | apply f_some | apply f_tup | apply f_agg | apply f_ptr | apply f_fn | apply dv_slice | apply sv_d | apply f_cons | apply fold_nil | apply fold_cons | apply fold_app | apply f_rowI | apply f_rowY | apply f_rowS | apply f_rowB | apply f_rowL) | (with_reducible apply f_byte; decide))); done))) | ((with_reducible apply K_leave hm); intro r hm) | ((with_reducible apply K_leaveR hm); intro r hm) | ((apply S_loopY (b := 2) (X := sc_wire_CheckSegments_B1) (x := sc_wire_CheckSegments_L1) rfl (fun (c : SV × SV × SV × SV × SV) (s : Int) => st [(11, c.1), (12, c.2.1), (13, c.2.2.1), (26, c.2.2.2.1), (27, c.2.2.2.2), (28, .d (.int .i64 s))] []) (c := (_, _, _, _, _)) (s0 := _) hm); (focus (first | (dsimp only; done) | (dsimp only; rfl) | rfl)); (with_reducible refine Then.mk ?_ ?_)) | ((apply S_loopY (b := 0) (X := sc_wire_CheckSegments_B2) (x := sc_wire_CheckSegments_L2) rfl (fun (c : SV × SV) (s : Int) => st [(11, c.1), (12, c.2), (13, .d (.int .i64 s))] []) (c := (_, _)) (s0 := _) hm); (focus (first | (dsimp only; done) | (dsimp only; rfl) | rfl)); (with_reducible refine Then.mk ?_ ?_)) | ((apply K_next (s' := _) hm); (focus (first | (dsimp only; done) | (dsimp only; rfl) | rfl))) | ((apply K_brk (s' := _) hm); (focus (first | (dsimp only; done) | (dsimp only; rfl) | rfl))) | (((with_reducible apply K_brkN hm); (focus decide); intro r hm)) | (((with_reducible apply K_brkR hm); intro r hm)) | (((with_reducible apply LoopB.of); (focus (first | (dsimp only; done) | (dsimp only; rfl) | rfl)); (focus ((intro _; repeat' (first | with_reducible exact impC_end | with_reducible exact impC_endF | with_reducible refine impC_seq ?_ | with_reducible refine impC_block ?_ | ((with_reducible refine impC_rnd ?_); intro _) | ((with_reducible refine impC_brk ?_); intro _))))); (intro s o hm; first | unfold sc_wire_CheckSegments_L1 | unfold sc_wire_CheckSegments_L2); rotate_left; intro s hm)) | (((apply imp_stT; (repeat' (first | with_reducible exact keepT_nil | with_reducible exact keepC_nil | with_reducible apply keepT_cons | with_reducible apply keepC_cons | ((with_reducible apply svle_eq); (focus (first | (simp only [push_cast, seval]; rfl) | rfl)); (focus ((repeat' (first | rfl | (with_reducible first | apply fT_Tapi_Marks | apply fT_Tapi_Element | apply fT_Tapi_Segment | apply f_optN | apply f_optS | apply f_some | apply f_tup | apply f_agg | apply f_ptr | apply f_fn | apply dv_slice | apply sv_d | apply f_cons | apply fold_nil | apply fold_cons | apply fold_app | apply f_rowI | apply f_rowY | apply f_rowS | apply f_rowB | apply f_rowL) | (with_reducible apply f_byte; decide))); done))) | ((with_reducible apply svle_td); (focus (first | (simp only [push_cast, seval]; rfl) | rfl)); (focus (first | (simp only [push_cast, seval]; rfl) | rfl)); (focus ((repeat' (first | rfl | (with_reducible first | apply fT_Tapi_Marks | apply fT_Tapi_Element | apply fT_Tapi_Segment | apply f_optN | apply f_optS | apply f_some | apply f_tup | apply f_agg | apply f_ptr | apply f_fn | apply dv_slice | apply sv_d | apply f_cons | apply fold_nil | apply fold_cons | apply fold_app | apply f_rowI | apply f_rowY | apply f_rowS | apply f_rowB | apply f_rowL) | (with_reducible apply f_byte; decide))); done))) | ((with_reducible apply chle_eq); (focus (first | (simp only [push_cast, seval]; rfl) | rfl)); (first | with_reducible exact chle_rfl rfl | with_reducible exact chle_map0 | with_reducible apply chle_vec | with_reducible apply chle_box)) | (with_reducible first | apply cT_Tapi_Marks | apply cT_Tapi_Element | apply cT_Tapi_Segment | apply r_shS | apply r_shI | apply r_rflO | apply r_oneO | apply r_appO | apply r_nilO | apply c_ownN | apply c_ownL | apply vc_rfl | apply vc_nil | apply vc_cons | apply r_rfl | apply r_rows | apply r_nil | apply r_app | apply r_cons | apply c_rowI | apply c_rowY | apply c_rowS | apply c_rowB | apply c_rowL))); done))))
noncomputable def m_wire_CheckSegments (x0 : List Tapi_Segment) : Option (Int) := (sims_G1_4_0 x0).1
theorem spec_wire_CheckSegments (x0 : List Tapi_Segment) : ∀ r, m_wire_CheckSegments x0 = some r → PureSpec Tryd.prog 37 [.slice (List.map rTapi_Segment x0)] (.int .i64 r) := (sims_G1_4_0 x0).2

end Go.Proofs.YthailknfgcegoaaDoor

/-
  A row that a call has made, as data.
-/
namespace Go.Proofs.YthailknfgcegoaaDoor
set_option linter.unusedSimpArgs false
set_option linter.unusedVariables false
open Go.RowKit Go.Lib
theorem dR_toDVs : ∀ (l : List DV), SV.toDVs (dR l) = some l
  | [] => rfl
  | d :: l => by
    have ih := dR_toDVs l
    simp only [dR, List.map_cons, SV.toDVs, SV.toDV] at ih ⊢
    rw [ih]
theorem chunkR_flat {α : Type} {sz : Nat} : ∀ (rows : List (List α)), (∀ r ∈ rows, r.length = sz) → chunkR sz rows.length rows.flatten = rows
  | [], _ => rfl
  | r :: rows, h => by
    have hr := h r (by simp)
    simp only [List.length_cons, chunkR, List.flatten_cons]
    rw [List.take_append_of_le_length (by omega), List.drop_append_of_le_length (by omega), List.take_of_length_le (by omega), List.drop_of_length_le (by omega), List.nil_append, chunkR_flat rows fun r hr => h r (by simp [hr])]
/-- What comes back, as data. -/
theorem owned_rep {w w' : World} {M : Nat → Prop} {e size : Nat} {v : Value} {rows : List (List DV)} {news : List Value} (hM : ∀ b, M b → b < w.heap.size) (hall : ∀ r ∈ rows, r.length = size) (ho : w'.ownsRow w.heap.size e size v rows.length news) (hrep : RepL w' M rows.flatten news) (h1 : ∀ u ∈ news, u.oneCell' = true) : Rep w' M (.slice rows) v := by
  have ho' := ho
  rcases ho.2 with ⟨rfl, hn⟩ | ⟨g, cap, cur, rfl, hb, hg, hnc, hcm, hcs, htake⟩
  · have : rows = [] := List.length_eq_zero_iff.1 hn
    subst this
    unfold Rep
    exact ⟨none, 0, rfl, Nat.le_refl _, fun _ => rfl, .inl rfl⟩
  · unfold Rep
    refine ⟨some ⟨g, 0, none⟩, cap, rfl, hnc, by simp, .inr ⟨g, 0, size, rfl, fun hm => ?_, (Array.getElem?_eq_some_iff.1 hg).1, ?_⟩⟩
    · have := hM g hm; omega
    · have h2 := RepRows.of_cells (n := rows.length) (sz := size) (b := g) (o := 0) hrep h1 (fun j u hj => by
        have := ho'.cells (g := g) rfl j u hj
        rw [addr_add] at this
        exact this) (by rw [flatten_len hall])
      rwa [chunkR_flat rows hall] at h2
end Go.Proofs.YthailknfgcegoaaDoor

/-
  wire.Heading, by hand: the one place where bytes of a constant string are appended to.
-/
namespace Go.Proofs.YthailknfgcegoaaDoor
set_option linter.unusedSimpArgs false
set_option linter.unusedVariables false
open Go.RowKit Go.Shelf Go.Lib

def hbytes (x : Tapi_Marks) : List UInt8 := [77, 82, 75, x.fElement, x.fPart, x.fRepeat, if x.fEscape = 0 then 32 else x.fEscape, x.fEnd]
noncomputable def m_wire_Heading (x0 : Tapi_Marks) : Option (List UInt8 × Int) := (m_wire_CheckMarks x0).bind fun c => if c = 0 then some (hbytes x0, 0) else some ([], c)
theorem alloc_row (w : World) (C : Array Value) (e : TypeId) (m : Nat × Nat) (j : Nat) (u : Value) (h : C.toList[j]? = some u) : (w.alloc (.cells C e m)).cell? ((⟨w.heap.size, 0, none⟩ : Addr).add j) = some u := by
  have hh : (w.alloc (.cells C e m)).heap[w.heap.size]? = some (.cells C e m) := by
    show (w.heap.push _)[w.heap.size]? = _
    simp
  rw [Addr.add_lit]
  unfold World.cell?
  rw [hh]
  simpa using h
theorem alloc_row2 (w : World) (o : Obj) (C : Array Value) (e : TypeId) (m : Nat × Nat) (j : Nat) (u : Value) (h : C.toList[j]? = some u) : ((w.alloc o).alloc (.cells C e m)).cell? ((⟨w.heap.size + 1, 0, none⟩ : Addr).add j) = some u := by
  have hs : (w.alloc o).heap.size = w.heap.size + 1 := by show (w.heap.push _).size = _; rw [Array.size_push]
  have := alloc_row (w.alloc o) C e m j u h
  rwa [hs] at this
theorem esc_t (b : UInt8) (h : ((b.toNat : Int) == 0) = true) : (if b = 0 then (32 : UInt8) else b) = 32 := by
  have h1 : (b.toNat : Int) = 0 := by simpa using h
  have h2 : b = 0 := UInt8.toNat_inj.1 (by show b.toNat = 0; omega)
  rw [if_pos h2]
theorem esc_f (b : UInt8) (h : ((b.toNat : Int) == 0) = false) : (if b = 0 then (32 : UInt8) else b) = b := by
  rw [if_neg]
  rintro rfl
  simp at h
theorem hrow (x0 : Tapi_Marks) {n : Nat} (M : Nat → Prop) {w2 : World} {v' : Value} {e : UInt8} (hM : ∀ b, M b → b < n) (he : (if x0.fEscape = 0 then (32 : UInt8) else x0.fEscape) = e)
    (ho : w2.ownsRow n 5 1 v' 8 [.int .u8 77, .int .u8 82, .int .u8 75, .int .u8 x0.fElement.toNat, .int .u8 x0.fPart.toNat, .int .u8 x0.fRepeat.toNat, .int .u8 e.toNat, .int .u8 x0.fEnd.toNat]) :
    Rep w2 M (.tup [.slice (List.map rowY (hbytes x0)), .int .i64 0]) (.tuple #[v', .int .i64 0]) := by
  subst he
  have h := owned_rep (w := { (default : World) with heap := (List.replicate n (.cells #[] 0)).toArray }) (M := M) (w' := w2) (e := 5) (size := 1) (v := v') (rows := List.map rowY (hbytes x0)) (fun b hb => by simpa using hM b hb) (by intro r hr; obtain ⟨q, -, rfl⟩ := List.mem_map.1 hr; rfl) (by simpa [hbytes] using ho) (by simp [RepL, Rep, hbytes, rowY]) (by simp [Value.oneCell'])
  unfold Rep
  refine ⟨[v', .int .i64 0], rfl, ?_⟩
  simp only [RepL]
  exact ⟨_, _, rfl, h, _, _, rfl, by simp only [Rep], rfl⟩
set_option maxRecDepth 100000 in
theorem inf5 : ∃ i z, Tryd.prog.info? 5 = some i ∧ i.zero = some z ∧ i.size = 1 ∧ i.bytes = 1 ∧ z.cells.size = 1 := ⟨_, _, rfl, rfl, rfl, rfl, rfl⟩
set_option maxRecDepth 100000 in
set_option maxHeartbeats 4000000 in
theorem spec_wire_Heading (x0 : Tapi_Marks) : ∀ r, m_wire_Heading x0 = some r → PureSpec Tryd.prog 42 [.agg (rTapi_Marks x0)] (.tup [.slice (List.map rowY r.1), .int .i64 r.2]) := by
  intro r hr
  unfold m_wire_Heading at hr
  cases hc : m_wire_CheckMarks x0 with
  | none => rw [hc] at hr; cases hr
  | some c =>
  rw [hc] at hr
  simp only [Option.bind_some] at hr
  have hp := spec_wire_CheckMarks x0 c hc
  refine ⟨by kernel_rfl, fun w M vs hM hv => ?_⟩
  simp only [RepL, Rep, rTapi_Marks] at hv
  obtain ⟨u, us, rfl, ⟨vs, rfl, -, u0, us0, rfl, rfl, u1, us1, rfl, rfl, u2, us2, rfl, rfl, u3, us3, rfl, rfl, u4, us4, rfl, rfl, rfl⟩, rfl⟩ := hv
  have hcon := hp.2 (w.alloc (.cells #[.int .u8 x0.fElement.toNat, .int .u8 x0.fPart.toNat, .int .u8 x0.fRepeat.toNat, .int .u8 x0.fEscape.toNat, .int .u8 x0.fEnd.toNat] 83)) M _ (fun b hb => by have := hM b hb; show b < (w.heap.push _).size; rw [Array.size_push]; omega) (by simp only [RepL, Rep, rTapi_Marks]; exact ⟨_, _, rfl, ⟨_, rfl, by simp [Value.oneCell'], _, _, rfl, rfl, _, _, rfl, rfl, _, _, rfl, rfl, _, _, rfl, rfl, _, _, rfl, rfl, rfl⟩, rfl⟩)
  have kc := fun (w : World) (C : Array Value) (n c : Nat) => Lib.run_convert_bytes_const (P := Tryd.prog) w 79 5 C n c Tryd.underlying79 Tryd.underlying5
  have hsz : (w.alloc (.cells #[.int .u8 x0.fElement.toNat, .int .u8 x0.fPart.toNat, .int .u8 x0.fRepeat.toNat, .int .u8 x0.fEscape.toNat, .int .u8 x0.fEnd.toNat] 83)).heap.size = w.heap.size + 1 := by show (w.heap.push _).size = _; rw [Array.size_push]
  have hcell : ∀ k, (w.alloc (.cells #[.int .u8 x0.fElement.toNat, .int .u8 x0.fPart.toNat, .int .u8 x0.fRepeat.toNat, .int .u8 x0.fEscape.toNat, .int .u8 x0.fEnd.toNat] 83)).cell? ⟨w.heap.size, k, none⟩ = (#[.int .u8 x0.fElement.toNat, .int .u8 x0.fPart.toNat, .int .u8 x0.fRepeat.toNat, .int .u8 x0.fEscape.toNat, .int .u8 x0.fEnd.toNat] : Array Value)[k]? := by
    intro k
    have hh : (w.alloc (.cells #[.int .u8 x0.fElement.toNat, .int .u8 x0.fPart.toNat, .int .u8 x0.fRepeat.toNat, .int .u8 x0.fEscape.toNat, .int .u8 x0.fEnd.toNat] 83)).heap[w.heap.size]? = some (.cells #[.int .u8 x0.fElement.toNat, .int .u8 x0.fPart.toNat, .int .u8 x0.fRepeat.toNat, .int .u8 x0.fEscape.toNat, .int .u8 x0.fEnd.toNat] 83) := by
      show (w.heap.push _)[w.heap.size]? = _
      simp
    unfold World.cell?
    rw [hh]
    rfl
  by_cases h0 : c = 0
  · subst h0
    obtain ⟨i0, z, hi, hz0, hz1, hz2, hzs⟩ := inf5
    go_enter Tryd.func42, Tryd.ntmps42
    go_wp2_with (first | (go_at_call 80; refine hcon.mono ?_; rintro e w' ⟨v, rfl, hrep, hB⟩; simp only [Rep] at hrep; subst hrep; have c0 := (hB.cell (p := ⟨w.heap.size, 0, none⟩) (by rw [hsz]; exact Nat.lt_succ_self _)).trans (hcell 0); have c1 := (hB.cell (p := ⟨w.heap.size, 1, none⟩) (by rw [hsz]; exact Nat.lt_succ_self _)).trans (hcell 1); have c2 := (hB.cell (p := ⟨w.heap.size, 2, none⟩) (by rw [hsz]; exact Nat.lt_succ_self _)).trans (hcell 2); have c3 := (hB.cell (p := ⟨w.heap.size, 3, none⟩) (by rw [hsz]; exact Nat.lt_succ_self _)).trans (hcell 3); have c4 := (hB.cell (p := ⟨w.heap.size, 4, none⟩) (by rw [hsz]; exact Nat.lt_succ_self _)).trans (hcell 4); dsimp at c0 c1 c2 c3 c4; have d0 := fun o => Lib.cell?_alloc_marked (W := w') o c0; have d1 := fun o => Lib.cell?_alloc_marked (W := w') o c1; have d2 := fun o => Lib.cell?_alloc_marked (W := w') o c2; have d3 := fun o => Lib.cell?_alloc_marked (W := w') o c3; have d4 := fun o => Lib.cell?_alloc_marked (W := w') o c4) | (at_builtin; refine wpList_append_grows _ rfl _ _ 79 rfl 5 i0 z 1 1 Tryd.underlying79 hi hz0 hz1 hz2 hzs (by decide) _ 3 3 [.int .u8 77, .int .u8 82, .int .u8 75] rfl (fun h => by cases h) rfl (by rintro b ⟨⟩ j u hj; exact Lib.cell?_alloc_marked _ (alloc_row _ _ _ _ j u hj)) _ 5 _ [.int .u8 x0.fElement.toNat, .int .u8 x0.fPart.toNat, .int .u8 x0.fRepeat.toNat, .int .u8 32, .int .u8 x0.fEnd.toNat] rfl rfl (by intro j u hj; exact alloc_row2 _ _ _ _ _ j u hj) (by simp [Value.oneCell']) (by decide) (by decide) (by decide) ?_) | (at_builtin; refine wpList_append_grows _ rfl _ _ 79 rfl 5 i0 z 1 1 Tryd.underlying79 hi hz0 hz1 hz2 hzs (by decide) _ 3 3 [.int .u8 77, .int .u8 82, .int .u8 75] rfl (fun h => by cases h) rfl (by rintro b ⟨⟩ j u hj; exact Lib.cell?_alloc_marked _ (alloc_row _ _ _ _ j u hj)) _ 5 _ [.int .u8 x0.fElement.toNat, .int .u8 x0.fPart.toNat, .int .u8 x0.fRepeat.toNat, .int .u8 x0.fEscape.toNat, .int .u8 x0.fEnd.toNat] rfl rfl (by intro j u hj; exact alloc_row2 _ _ _ _ _ j u hj) (by simp [Value.oneCell']) (by decide) (by decide) (by decide) ?_))
    · intro v' w2 hown hgrow
      have he : ((x0.fEscape.toNat : Int) == 0) = true := by assumption
      rw [if_pos trivial] at hr
      cases hr
      have hW : Below w.heap.size w w' := ((Below.refl _ w).alloc (Nat.le_refl _) _).trans (hB.mono (by rw [hsz]; omega))
      have hle := hW.size
      have hB2 : Below w.heap.size w w2 := ((hW.alloc hle _).alloc (by show _ ≤ (w'.heap.push _).size; rw [Array.size_push]; omega) _).grown hgrow (by show _ ≤ ((w'.heap.push _).push _).size; rw [Array.size_push, Array.size_push]; omega) (by intro k hk; cases hk)
      go_wp2
      go_ret2
      exact ⟨_, rfl, hrow x0 M (fun b hb => by have := hM b hb; omega) (esc_t _ he) hown, hB2⟩
    · intro v' w2 hown hgrow
      have he : ((x0.fEscape.toNat : Int) == 0) = false := by assumption
      rw [if_pos trivial] at hr
      cases hr
      have hW : Below w.heap.size w w' := ((Below.refl _ w).alloc (Nat.le_refl _) _).trans (hB.mono (by rw [hsz]; omega))
      have hle := hW.size
      have hB2 : Below w.heap.size w w2 := ((hW.alloc hle _).alloc (by show _ ≤ (w'.heap.push _).size; rw [Array.size_push]; omega) _).grown hgrow (by show _ ≤ ((w'.heap.push _).push _).size; rw [Array.size_push, Array.size_push]; omega) (by intro k hk; cases hk)
      go_wp2
      go_ret2
      exact ⟨_, rfl, hrow x0 M (fun b hb => by have := hM b hb; omega) (esc_f _ he) hown, hB2⟩
  · go_enter Tryd.func42, Tryd.ntmps42
    go_wp2_with (go_at_call 80; refine hcon.mono ?_; rintro e w' ⟨v, rfl, hrep, hB⟩; simp only [Rep] at hrep; subst hrep)
    rw [if_neg h0] at hr
    cases hr
    go_ret2
    refine ⟨_, rfl, ?_, ((Below.refl _ w).alloc (Nat.le_refl _) _).trans (hB.mono (by rw [hsz]; omega))⟩
    simp only [Rep, RepL]
    exact ⟨_, rfl, _, _, rfl, ⟨none, 0, rfl, Nat.le_refl _, fun _ => rfl, .inl rfl⟩, _, _, rfl, rfl, rfl⟩
end Go.Proofs.YthailknfgcegoaaDoor

/-
  Bodies of functions and what they compute, printed by programs of mine (wip/tool/gen.py, sc.py) out of the translation; the kernel holds each against the translation.
-/
namespace Go.Proofs.YthailknfgcegoaaDoor
open Go.RowKit
set_option linter.unusedSimpArgs false
set_option linter.unusedVariables false
structure Tapi_Spot where
  fElement : Int
  fRepeat : Int
  fPart : Int
  deriving DecidableEq
def rTapi_Spot (x : Tapi_Spot) : List DV := [.int .i64 x.fElement, .int .i64 x.fRepeat, .int .i64 x.fPart]
attribute [push_cast] rTapi_Spot
theorem fT_Tapi_Spot {d0 d1 d2 : DV} {v0 : Int} {v1 : Int} {v2 : Int} (h0 : d0 = .int .i64 v0) (h1 : d1 = .int .i64 v1) (h2 : d2 = .int .i64 v2) : [d0, d1, d2] = rTapi_Spot ⟨v0, v1, v2⟩ := by unfold rTapi_Spot; simp only [h0, h1, h2, List.cons_append, List.nil_append, List.append_assoc, List.append_nil]
theorem cT_Tapi_Spot {d0 d1 d2 : SV} {v0 : Int} {v1 : Int} {v2 : Int} (h0 : svle d0 (.d (.int .i64 v0))) (h1 : svle d1 (.d (.int .i64 v1))) (h2 : svle d2 (.d (.int .i64 v2))) : cellsle [d0, d1, d2] (dR (rTapi_Spot ⟨v0, v1, v2⟩)) := by have h := (cellsle.append (cellsle.consS h0 cellsle.nil) (cellsle.append (cellsle.consS h1 cellsle.nil) (cellsle.consS h2 cellsle.nil))); simpa only [rTapi_Spot, dR, List.map_append, List.map_cons, List.map_nil, List.cons_append, List.nil_append, List.append_assoc, List.append_nil] using h
theorem eT_Tapi_Spot {d0 d1 d2 : SV} {v0 : Int} {v1 : Int} {v2 : Int} (h0 : d0 = .d (.int .i64 v0)) (h1 : d1 = .d (.int .i64 v1)) (h2 : d2 = .d (.int .i64 v2)) : [d0, d1, d2] = dR (rTapi_Spot ⟨v0, v1, v2⟩) := by simp only [rTapi_Spot, dR, List.map_append, List.map_cons, List.map_nil, List.cons_append, List.nil_append, List.append_assoc, List.append_nil, h0, h1, h2]

/-- interchange/kit.Outside -/
def sc_kit_Outside : SC :=
  (.seq (.reg [.r 6 (.mv (.c (.d (.bool false))))])
  (.seq (.reg (.r 7 (.mv (.t 0)) :: .r 8 (.mv (.t 1)) :: .r 9 (.bin .lss (.t 7) (.t 8)) :: .r 10 (.mv (.t 9)) :: gapp [11, 12, 13] 10 false (.r 11 (.mv (.t 0)) :: .r 12 (.mv (.t 2)) :: .r 13 (.bin .gtr (.t 11) (.t 12)) :: []) (.r 14 (.pick (.t 10) (.c (.d (.bool true))) (.t 13)) :: .r 6 (.mv (.t 14)) :: [])))
  .ret))
theorem fit_kit_Outside : fits Tryd.prog 70 Tryd.f70 sc_kit_Outside [.t 6] 3 = true := by kernel_rfl

/-- interchange/wire.TextAt -/
def sc_wire_TextAt : SC :=
  (.seq (.reg [.r 2 (.boxI (.t 0)),
     .r 3 (.boxI (.t 1)),
     .r 4 (.mv (.c (.d (.str [])))),
     .r 5 (.mv (.c (.d (.bool false))))])
  (.seq (.seq (.reg [.r 7 (.fld 0 (.t 3)),
     .o 8 (.ld1 (.t 7)),
     .r 9 (.fld 1 (.t 2)),
     .o 10 (.ld1 (.t 9)),
     .r 11 (.len (.t 10)),
     .r 12 (.bin .gtr (.t 8) (.t 11))])
  (.cond (.t 12)
    (.seq (.reg [.r 4 (.mv (.c (.d (.str [])))),
       .r 5 (.mv (.c (.d (.bool false))))])
    .ret)
    .skip))
  (.seq (.reg [.r 13 (.fld 1 (.t 2)),
     .o 14 (.ld1 (.t 13)),
     .r 15 (.fld 0 (.t 3)),
     .o 16 (.ld1 (.t 15)),
     .r 17 (.bin .sub (.t 16) (.c (.d (.int .i64 1)))),
     .r 18 (.idx 1 (.t 14) (.t 17)),
     .r 19 (.fld 0 (.t 18)),
     .o 20 (.ld1 (.t 19)),
     .r 6 (.mv (.t 20))])
  (.seq (.seq (.regD (.r 21 (.fld 1 (.t 3)) :: .r 22 (.ld1 (.t 21)) :: .r 23 (.mv (.t 6)) :: .r 24 (.len (.t 23)) :: .r 25 (.bin .gtr (.t 22) (.t 24)) :: .r 26 (.mv (.t 25)) :: gapp [27, 28, 29, 30, 31, 32, 33, 34, 35, 36] 26 false (.r 27 (.fld 2 (.t 3)) :: .r 28 (.ld1 (.t 27)) :: .r 29 (.mv (.t 6)) :: .r 30 (.fld 1 (.t 3)) :: .r 31 (.ld1 (.t 30)) :: .r 32 (.bin .sub (.t 31) (.c (.d (.int .i64 1)))) :: .r 33 (.idx 1 (.t 29) (.t 32)) :: .r 34 (.ld1 (.t 33)) :: .r 35 (.len (.t 34)) :: .r 36 (.bin .gtr (.t 28) (.t 35)) :: []) (.r 37 (.pick (.t 26) (.c (.d (.bool true))) (.t 36)) :: [])))
  (.cond (.t 37)
    (.seq (.reg [.r 4 (.mv (.c (.d (.str [])))),
       .r 5 (.mv (.c (.d (.bool false))))])
    .ret)
    .skip))
  (.seq (.regD [.r 38 (.mv (.t 6)),
     .r 39 (.fld 1 (.t 3)),
     .r 40 (.ld1 (.t 39)),
     .r 41 (.bin .sub (.t 40) (.c (.d (.int .i64 1)))),
     .r 42 (.idx 1 (.t 38) (.t 41)),
     .r 43 (.ld1 (.t 42)),
     .r 44 (.fld 2 (.t 3)),
     .r 45 (.ld1 (.t 44)),
     .r 46 (.bin .sub (.t 45) (.c (.d (.int .i64 1)))),
     .r 47 (.idx 1 (.t 43) (.t 46)),
     .r 48 (.ld1 (.t 47)),
     .r 4 (.mv (.t 48)),
     .r 5 (.mv (.c (.d (.bool true))))])
  .ret)))))
theorem fit_wire_TextAt : fits Tryd.prog 44 Tryd.f44 sc_wire_TextAt [.t 4, .t 5] 2 = true := by kernel_rfl

/-- interchange/interchangeref2.within -/
def sc_interchangeref2_within : SC :=
  (.seq (.reg [.r 4 (.mv (.c (.d (.bool false))))])
  (.seq (.reg (.r 5 (.mv (.t 0)) :: .r 6 (.bin .geq (.t 5) (.c (.d (.int .i64 1)))) :: .r 7 (.mv (.t 6)) :: gapp [8, 9, 10] 7 true (.r 8 (.mv (.t 0)) :: .r 9 (.mv (.t 1)) :: .r 10 (.bin .leq (.t 8) (.t 9)) :: []) (.r 11 (.pick (.t 7) (.t 10) (.c (.d (.bool false)))) :: .r 4 (.mv (.t 11)) :: [])))
  .ret))
theorem fit_interchangeref2_within : fits Tryd.prog 82 Tryd.f82 sc_interchangeref2_within [.t 4] 2 = true := by kernel_rfl

/-- interchange/interchangeref2.PartAt -/
def sc_interchangeref2_PartAt : SC :=
  (.seq (.reg [.r 2 (.boxI (.t 0)),
     .r 3 (.boxI (.t 1)),
     .r 4 (.mv (.c (.d (.str [])))),
     .r 5 (.mv (.c (.d (.bool false))))])
  (.seq (.seq (.regD (.r 7 (.fld 0 (.t 3)) :: .r 8 (.ld1 (.t 7)) :: .r 9 (.fld 1 (.t 2)) :: .r 10 (.ld1 (.t 9)) :: .r 11 (.len (.t 10)) :: .r 12 (.bin .gtr (.t 8) (.t 11)) :: .r 13 (.mv (.t 12)) :: gapp [14, 15, 16, 17, 18, 19, 20, 21, 22, 23, 24, 25] 13 false (.r 14 (.fld 1 (.t 3)) :: .r 15 (.ld1 (.t 14)) :: .r 16 (.fld 1 (.t 2)) :: .r 17 (.ld1 (.t 16)) :: .r 18 (.fld 0 (.t 3)) :: .r 19 (.ld1 (.t 18)) :: .r 20 (.bin .sub (.t 19) (.c (.d (.int .i64 1)))) :: .r 21 (.idx 1 (.t 17) (.t 20)) :: .r 22 (.fld 0 (.t 21)) :: .r 23 (.ld1 (.t 22)) :: .r 24 (.len (.t 23)) :: .r 25 (.bin .gtr (.t 15) (.t 24)) :: []) (.r 26 (.pick (.t 13) (.c (.d (.bool true))) (.t 25)) :: [])))
  (.cond (.t 26)
    (.seq (.reg [.r 4 (.mv (.c (.d (.str [])))),
       .r 5 (.mv (.c (.d (.bool false))))])
    .ret)
    .skip))
  (.seq (.regD [.r 27 (.fld 1 (.t 2)),
     .r 28 (.ld1 (.t 27)),
     .r 29 (.fld 0 (.t 3)),
     .r 30 (.ld1 (.t 29)),
     .r 31 (.bin .sub (.t 30) (.c (.d (.int .i64 1)))),
     .r 32 (.idx 1 (.t 28) (.t 31)),
     .r 33 (.fld 0 (.t 32)),
     .r 34 (.ld1 (.t 33)),
     .r 35 (.fld 1 (.t 3)),
     .r 36 (.ld1 (.t 35)),
     .r 37 (.bin .sub (.t 36) (.c (.d (.int .i64 1)))),
     .r 38 (.idx 1 (.t 34) (.t 37)),
     .r 39 (.ld1 (.t 38)),
     .r 6 (.mv (.t 39))])
  (.seq (.seq (.reg [.r 40 (.fld 2 (.t 3)),
     .o 41 (.ld1 (.t 40)),
     .r 42 (.mv (.t 6)),
     .r 43 (.len (.t 42)),
     .r 44 (.bin .gtr (.t 41) (.t 43))])
  (.cond (.t 44)
    (.seq (.reg [.r 4 (.mv (.c (.d (.str [])))),
       .r 5 (.mv (.c (.d (.bool false))))])
    .ret)
    .skip))
  (.seq (.reg [.r 45 (.mv (.t 6)),
     .r 46 (.fld 2 (.t 3)),
     .o 47 (.ld1 (.t 46)),
     .r 48 (.bin .sub (.t 47) (.c (.d (.int .i64 1)))),
     .r 49 (.idx 1 (.t 45) (.t 48)),
     .o 50 (.ld1 (.t 49)),
     .r 4 (.mv (.t 50)),
     .r 5 (.mv (.c (.d (.bool true))))])
  .ret)))))
theorem fit_interchangeref2_PartAt : fits Tryd.prog 46 Tryd.f46 sc_interchangeref2_PartAt [.t 4, .t 5] 2 = true := by kernel_rfl

def sc_interchangeref2_SameTexts_L1 : SC :=
  (.seq (.seq (.reg [.r 11 (.mv (.t 5)),
     .r 12 (.mv (.t 0)),
     .r 13 (.len (.t 12)),
     .r 14 (.bin .lss (.t 11) (.t 13))])
  (.cond (.t 14)
    .skip
    (.exit 0)))
  (.seq (.block 1 (.seq (.regD [.r 17 (.mv (.t 0)),
       .r 18 (.mv (.t 5)),
       .r 19 (.idx 1 (.t 17) (.t 18)),
       .r 20 (.ld1 (.t 19)),
       .r 21 (.mv (.t 1)),
       .r 22 (.mv (.t 5)),
       .r 23 (.idx 1 (.t 21) (.t 22)),
       .r 24 (.ld1 (.t 23)),
       .r 25 (.bin .neq (.t 20) (.t 24))])
    (.cond (.t 25)
      (.seq (.reg [.r 4 (.mv (.c (.d (.bool false))))])
      .ret)
      .skip)))
  (.reg [.r 15 (.mv (.t 5)),
     .r 16 (.bin .add (.t 15) (.c (.d (.int .i64 1)))),
     .r 5 (.mv (.t 16))])))
def sc_interchangeref2_SameTexts_B1 : SC := .block 0 (.loop sc_interchangeref2_SameTexts_L1)
/-- interchange/interchangeref2.SameTexts -/
def sc_interchangeref2_SameTexts : SC :=
  (.seq (.reg [.r 4 (.mv (.c (.d (.bool false))))])
  (.seq (.seq (.reg [.r 6 (.mv (.t 0)),
     .r 7 (.len (.t 6)),
     .r 8 (.mv (.t 1)),
     .r 9 (.len (.t 8)),
     .r 10 (.bin .neq (.t 7) (.t 9))])
  (.cond (.t 10)
    (.seq (.reg [.r 4 (.mv (.c (.d (.bool false))))])
    .ret)
    .skip))
  (.seq (.seq (.reg [.r 5 (.mv (.c (.d (.int .i64 0))))])
  sc_interchangeref2_SameTexts_B1)
  (.seq (.reg [.r 4 (.mv (.c (.d (.bool true))))])
  .ret))))
theorem fit_interchangeref2_SameTexts : fits Tryd.prog 50 Tryd.f50 sc_interchangeref2_SameTexts [.t 4] 2 = true := by kernel_rfl

/-- interchange/interchangeref2.bare -/
def sc_interchangeref2_bare : SC :=
  (.seq (.reg [.r 2 (.mv (.c (.d (.bool false))))])
  (.seq (.reg (.r 3 (.mv (.t 0)) :: .r 4 (.len (.t 3)) :: .r 5 (.bin .eql (.t 4) (.c (.d (.int .i64 1)))) :: .r 6 (.mv (.t 5)) :: gapp [7, 8, 9, 10] 6 true (.r 7 (.mv (.t 0)) :: .r 8 (.idx 1 (.t 7) (.c (.d (.int .i64 0)))) :: .r 9 (.ld1 (.t 8)) :: .r 10 (.bin .eql (.t 9) (.c (.d (.str [])))) :: []) (.r 11 (.pick (.t 6) (.t 10) (.c (.d (.bool false)))) :: .r 2 (.mv (.t 11)) :: [])))
  .ret))
theorem fit_interchangeref2_bare : fits Tryd.prog 41 Tryd.f41 sc_interchangeref2_bare [.t 2] 1 = true := by kernel_rfl

/-- interchange/wire.isEmptyRepeat -/
def sc_wire_isEmptyRepeat : SC :=
  (.seq (.reg [.r 2 (.mv (.c (.d (.bool false))))])
  (.seq (.reg (.r 3 (.mv (.t 0)) :: .r 4 (.len (.t 3)) :: .r 5 (.bin .eql (.t 4) (.c (.d (.int .i64 1)))) :: .r 6 (.mv (.t 5)) :: gapp [7, 8, 9, 10] 6 true (.r 7 (.mv (.t 0)) :: .r 8 (.idx 1 (.t 7) (.c (.d (.int .i64 0)))) :: .r 9 (.ld1 (.t 8)) :: .r 10 (.bin .eql (.t 9) (.c (.d (.str [])))) :: []) (.r 11 (.pick (.t 6) (.t 10) (.c (.d (.bool false)))) :: .r 2 (.mv (.t 11)) :: [])))
  .ret))
theorem fit_wire_isEmptyRepeat : fits Tryd.prog 78 Tryd.f78 sc_wire_isEmptyRepeat [.t 2] 1 = true := by kernel_rfl

set_option maxRecDepth 100000 in
set_option maxHeartbeats 40000000 in
noncomputable def sims_G2_0_0 : (∀ (x0 : Int) (x1 : Int) (x2 : Int), {m : Option (Bool) // ∀ r, m = some r → PureSpec Tryd.prog 70 [.int .i64 x0, .int .i64 x1, .int .i64 x2] (.bool r)}) × (∀ (x0 : Tapi_Segment) (x1 : Tapi_Spot), {m : Option ((List UInt8) × Bool) // ∀ r, m = some r → PureSpec Tryd.prog 44 [.agg (rTapi_Segment x0), .agg (rTapi_Spot x1)] (.tup [.str r.1, .bool r.2])}) × (∀ (x0 : Int) (x1 : Int), {m : Option (Bool) // ∀ r, m = some r → PureSpec Tryd.prog 82 [.int .i64 x0, .int .i64 x1] (.bool r)}) × (∀ (x0 : Tapi_Segment) (x1 : Tapi_Spot), {m : Option ((List UInt8) × Bool) // ∀ r, m = some r → PureSpec Tryd.prog 46 [.agg (rTapi_Segment x0), .agg (rTapi_Spot x1)] (.tup [.str r.1, .bool r.2])}) × (∀ (x0 : List (List UInt8)) (x1 : List (List UInt8)), {m : Option (Bool) // ∀ r, m = some r → PureSpec Tryd.prog 50 [.slice (List.map rowS x0), .slice (List.map rowS x1)] (.bool r)}) × (∀ (x0 : List (List UInt8)), {m : Option (Bool) // ∀ r, m = some r → PureSpec Tryd.prog 41 [.slice (List.map rowS x0)] (.bool r)}) × (∀ (x0 : List (List UInt8)), {m : Option (Bool) // ∀ r, m = some r → PureSpec Tryd.prog 78 [.slice (List.map rowS x0)] (.bool r)}) := by
  refine ⟨?g0, ?g1, ?g2, ?g3, ?g4, ?g5, ?g6⟩
  case' g0 => (intro x0 x1 x2; apply Subtype.mk; intro r hm; apply pure_walk Tryd.func70 fit_kit_Outside; unfold sc_kit_Outside)
  case' g1 => (intro x0 x1; apply Subtype.mk; intro r hm; apply pure_walk Tryd.func44 fit_wire_TextAt; unfold sc_wire_TextAt)
  case' g2 => (intro x0 x1; apply Subtype.mk; intro r hm; apply pure_walk Tryd.func82 fit_interchangeref2_within; unfold sc_interchangeref2_within)
  case' g3 => (intro x0 x1; apply Subtype.mk; intro r hm; apply pure_walk Tryd.func46 fit_interchangeref2_PartAt; unfold sc_interchangeref2_PartAt)
  case' g4 => (intro x0 x1; apply Subtype.mk; intro r hm; apply pure_walk Tryd.func50 fit_interchangeref2_SameTexts; unfold sc_interchangeref2_SameTexts)
  case' g5 => (intro x0; apply Subtype.mk; intro r hm; apply pure_walk Tryd.func41 fit_interchangeref2_bare; unfold sc_interchangeref2_bare)
  case' g6 => (intro x0; apply Subtype.mk; intro r hm; apply pure_walk Tryd.func78 fit_wire_isEmptyRepeat; unfold sc_wire_isEmptyRepeat)
  all_goals (repeat' (first | with_reducible refine W_seq ?_ | with_reducible refine W_reg ?_ | with_reducible refine W_regD ?_ | with_reducible refine W_block ?_ | with_reducible refine W_skip ?_ | with_reducible refine W_ret ?_ | with_reducible refine W_exit ?_ | with_reducible refine O_nil ?_ | with_reducible refine K_seq ?_ | with_reducible refine K_seqE ?_ | with_reducible refine K_seqR ?_ | with_reducible refine K_block ?_ | with_reducible refine K_blockR ?_ | with_reducible refine K_blockE ?_ | ((with_reducible apply K_blockN); decide) | with_reducible refine O_o2r ?_ | ((with_reducible apply O_idxr hm); (iterate 2 (simp only [push_cast, seval]; rfl)); (intro _; rfl); intro e hm) | ((with_reducible apply O_idxVr hm); (iterate 3 (simp only [push_cast, seval]; rfl)); intro e hm) | ((with_reducible apply O_r); (simp only [push_cast, seval]; rfl); (first | exact trivial | omega)) | ((with_reducible apply O_ldV1r hm); (iterate 2 (simp only [push_cast, seval]; rfl)); (intro _; rfl); intro e hm) | ((with_reducible apply O_strr hm); (iterate 2 (simp only [push_cast, seval]; rfl)); intro hm) | ((with_reducible apply O_and hm); (simp only [push_cast, seval]; rfl); rfl; intro v hm; rotate_left; intro v g hm) | ((with_reducible apply O_or hm); (simp only [push_cast, seval]; rfl); rfl; intro v hm; rotate_left; intro v g hm) | ((with_reducible apply W_condT); (focus (simp only [push_cast, seval]; done))) | ((with_reducible apply W_condF); (focus (simp only [push_cast, seval]; done))) | ((with_reducible apply S_condB hm); (simp only [push_cast, seval]; rfl); intro hm; rotate_left; intro hm) | ((with_reducible apply K_end2 hm); (focus (simp only [resOf, resL, RV.get, push_cast, seval]; rfl)); (focus (first | (dsimp only; done) | (dsimp only; rfl) | rfl)); (focus ((repeat' (first | rfl | (with_reducible first | apply fT_Tapi_Element | apply fT_Tapi_Marks | apply fT_Tapi_Segment | apply fT_Tapi_Spot | apply f_optN | apply f_optS | apply f_some | apply f_tup | apply f_agg | apply f_ptr | apply f_fn | apply dv_slice | apply sv_d | apply f_cons | apply fold_nil | apply fold_cons | apply fold_app | apply f_rowI | apply f_rowY | apply f_rowS | apply f_rowB | apply f_rowL) | (with_reducible apply f_byte; decide))); done))) | ((with_reducible apply K_endS hm); (focus (simp only [resOf, resL, RV.get, push_cast, seval]; rfl)); (focus ((repeat' (first | rfl | (with_reducible first | apply fT_Tapi_Element | apply fT_Tapi_Marks | apply fT_Tapi_Segment | apply fT_Tapi_Spot | apply f_optN | apply f_optS | apply f_some | apply f_tup | apply f_agg | apply f_ptr | apply f_fn | apply dv_slice | apply sv_d | apply f_cons | apply fold_nil | apply fold_cons | apply fold_app | apply f_rowI | apply f_rowY | apply f_rowS | apply f_rowB | apply f_rowL) | (with_reducible apply f_byte; decide))); done))) | ((with_reducible apply K_bool hm); (simp only [push_cast, seval]; rfl)) | ((with_reducible apply K_leave hm); intro r hm) | ((with_reducible apply K_leaveR hm); intro r hm) | ((apply S_loopY (b := 0) (X := sc_interchangeref2_SameTexts_B1) (x := sc_interchangeref2_SameTexts_L1) rfl (fun (c : SV × SV) (s : Int) => st [(0, c.1), (1, c.2), (5, .d (.int .i64 s))] []) (c := (_, _)) (s0 := _) hm); (focus (first | (dsimp only; done) | (dsimp only; rfl) | rfl)); (with_reducible refine Then.mk ?_ ?_)) | ((apply K_next (s' := _) hm); (focus (first | (dsimp only; done) | (dsimp only; rfl) | rfl))) | ((apply K_brk (s' := _) hm); (focus (first | (dsimp only; done) | (dsimp only; rfl) | rfl))) | (((with_reducible apply K_brkN hm); (focus decide); intro r hm)) | (((with_reducible apply K_brkR hm); intro r hm)) | (((with_reducible apply LoopB.of); (focus (first | (dsimp only; done) | (dsimp only; rfl) | rfl)); (focus ((intro _; repeat' (first | with_reducible exact impC_end | with_reducible exact impC_endF | with_reducible refine impC_seq ?_ | with_reducible refine impC_block ?_ | ((with_reducible refine impC_rnd ?_); intro _) | ((with_reducible refine impC_brk ?_); intro _))))); (intro s o hm; first | unfold sc_interchangeref2_SameTexts_L1); rotate_left; intro s hm)) | (((apply imp_stT; (repeat' (first | with_reducible exact keepT_nil | with_reducible exact keepC_nil | with_reducible apply keepT_cons | with_reducible apply keepC_cons | ((with_reducible apply svle_eq); (focus (first | (simp only [push_cast, seval]; rfl) | rfl)); (focus ((repeat' (first | rfl | (with_reducible first | apply fT_Tapi_Element | apply fT_Tapi_Marks | apply fT_Tapi_Segment | apply fT_Tapi_Spot | apply f_optN | apply f_optS | apply f_some | apply f_tup | apply f_agg | apply f_ptr | apply f_fn | apply dv_slice | apply sv_d | apply f_cons | apply fold_nil | apply fold_cons | apply fold_app | apply f_rowI | apply f_rowY | apply f_rowS | apply f_rowB | apply f_rowL) | (with_reducible apply f_byte; decide))); done))) | ((with_reducible apply svle_td); (focus (first | (simp only [push_cast, seval]; rfl) | rfl)); (focus (first | (simp only [push_cast, seval]; rfl) | rfl)); (focus ((repeat' (first | rfl | (with_reducible first | apply fT_Tapi_Element | apply fT_Tapi_Marks | apply fT_Tapi_Segment | apply fT_Tapi_Spot | apply f_optN | apply f_optS | apply f_some | apply f_tup | apply f_agg | apply f_ptr | apply f_fn | apply dv_slice | apply sv_d | apply f_cons | apply fold_nil | apply fold_cons | apply fold_app | apply f_rowI | apply f_rowY | apply f_rowS | apply f_rowB | apply f_rowL) | (with_reducible apply f_byte; decide))); done))) | ((with_reducible apply chle_eq); (focus (first | (simp only [push_cast, seval]; rfl) | rfl)); (first | with_reducible exact chle_rfl rfl | with_reducible exact chle_map0 | with_reducible apply chle_vec | with_reducible apply chle_box)) | (with_reducible first | apply cT_Tapi_Element | apply cT_Tapi_Marks | apply cT_Tapi_Segment | apply cT_Tapi_Spot | apply r_shS | apply r_shI | apply r_rflO | apply r_oneO | apply r_appO | apply r_nilO | apply c_ownN | apply c_ownL | apply vc_rfl | apply vc_nil | apply vc_cons | apply r_rfl | apply r_rows | apply r_nil | apply r_app | apply r_cons | apply c_rowI | apply c_rowY | apply c_rowS | apply c_rowB | apply c_rowL))); done)))))
noncomputable def m_kit_Outside (x0 : Int) (x1 : Int) (x2 : Int) : Option (Bool) := (sims_G2_0_0.1 x0 x1 x2).1
theorem spec_kit_Outside (x0 : Int) (x1 : Int) (x2 : Int) : ∀ r, m_kit_Outside x0 x1 x2 = some r → PureSpec Tryd.prog 70 [.int .i64 x0, .int .i64 x1, .int .i64 x2] (.bool r) := (sims_G2_0_0.1 x0 x1 x2).2
noncomputable def m_wire_TextAt (x0 : Tapi_Segment) (x1 : Tapi_Spot) : Option ((List UInt8) × Bool) := (sims_G2_0_0.2.1 x0 x1).1
theorem spec_wire_TextAt (x0 : Tapi_Segment) (x1 : Tapi_Spot) : ∀ r, m_wire_TextAt x0 x1 = some r → PureSpec Tryd.prog 44 [.agg (rTapi_Segment x0), .agg (rTapi_Spot x1)] (.tup [.str r.1, .bool r.2]) := (sims_G2_0_0.2.1 x0 x1).2
noncomputable def m_interchangeref2_within (x0 : Int) (x1 : Int) : Option (Bool) := (sims_G2_0_0.2.2.1 x0 x1).1
theorem spec_interchangeref2_within (x0 : Int) (x1 : Int) : ∀ r, m_interchangeref2_within x0 x1 = some r → PureSpec Tryd.prog 82 [.int .i64 x0, .int .i64 x1] (.bool r) := (sims_G2_0_0.2.2.1 x0 x1).2
noncomputable def m_interchangeref2_PartAt (x0 : Tapi_Segment) (x1 : Tapi_Spot) : Option ((List UInt8) × Bool) := (sims_G2_0_0.2.2.2.1 x0 x1).1
theorem spec_interchangeref2_PartAt (x0 : Tapi_Segment) (x1 : Tapi_Spot) : ∀ r, m_interchangeref2_PartAt x0 x1 = some r → PureSpec Tryd.prog 46 [.agg (rTapi_Segment x0), .agg (rTapi_Spot x1)] (.tup [.str r.1, .bool r.2]) := (sims_G2_0_0.2.2.2.1 x0 x1).2
noncomputable def m_interchangeref2_SameTexts (x0 : List (List UInt8)) (x1 : List (List UInt8)) : Option (Bool) := (sims_G2_0_0.2.2.2.2.1 x0 x1).1
theorem spec_interchangeref2_SameTexts (x0 : List (List UInt8)) (x1 : List (List UInt8)) : ∀ r, m_interchangeref2_SameTexts x0 x1 = some r → PureSpec Tryd.prog 50 [.slice (List.map rowS x0), .slice (List.map rowS x1)] (.bool r) := (sims_G2_0_0.2.2.2.2.1 x0 x1).2
noncomputable def m_interchangeref2_bare (x0 : List (List UInt8)) : Option (Bool) := (sims_G2_0_0.2.2.2.2.2.1 x0).1
theorem spec_interchangeref2_bare (x0 : List (List UInt8)) : ∀ r, m_interchangeref2_bare x0 = some r → PureSpec Tryd.prog 41 [.slice (List.map rowS x0)] (.bool r) := (sims_G2_0_0.2.2.2.2.2.1 x0).2
noncomputable def m_wire_isEmptyRepeat (x0 : List (List UInt8)) : Option (Bool) := (sims_G2_0_0.2.2.2.2.2.2 x0).1
theorem spec_wire_isEmptyRepeat (x0 : List (List UInt8)) : ∀ r, m_wire_isEmptyRepeat x0 = some r → PureSpec Tryd.prog 78 [.slice (List.map rowS x0)] (.bool r) := (sims_G2_0_0.2.2.2.2.2.2 x0).2

/-- interchange/wire.spotRange -/
def sc_wire_spotRange : SC :=
  (.seq (.reg [.r 1 (.boxI (.t 0)),
     .r 2 (.mv (.c (.d (.int .i64 0))))])
  (.seq (.seq (.reg (.r 3 (.fld 0 (.t 1)) :: .o 4 (.ld1 (.t 3)) :: .c 5 (.f 70) [.t 4, .c (.d (.int .i64 1)), .c (.d (.int .i64 50))] :: .r 6 (.mv (.t 5)) :: gapp [7, 8, 9] 6 false (.r 7 (.fld 1 (.t 1)) :: .r 8 (.ld1 (.t 7)) :: .c 9 (.f 70) [.t 8, .c (.d (.int .i64 1)), .c (.d (.int .i64 20))] :: []) (.r 10 (.pick (.t 6) (.c (.d (.bool true))) (.t 9)) :: .r 11 (.mv (.t 10)) :: gapp [12, 13, 14] 11 false (.r 12 (.fld 2 (.t 1)) :: .r 13 (.ld1 (.t 12)) :: .c 14 (.f 70) [.t 13, .c (.d (.int .i64 1)), .c (.d (.int .i64 20))] :: []) (.r 15 (.pick (.t 11) (.c (.d (.bool true))) (.t 14)) :: []))))
  (.cond (.t 15)
    (.seq (.reg [.r 2 (.mv (.c (.d (.int .i64 1))))])
    .ret)
    .skip))
  (.seq (.reg [.r 2 (.mv (.c (.d (.int .i64 0))))])
  .ret)))
theorem fit_wire_spotRange : fits Tryd.prog 81 Tryd.f81 sc_wire_spotRange [.t 2] 1 = true := by kernel_rfl

/-- interchange/interchangeref2.checkSpot -/
def sc_interchangeref2_checkSpot : SC :=
  (.seq (.reg [.r 2 (.boxI (.t 0)),
     .r 3 (.boxI (.t 1)),
     .r 4 (.mv (.c (.d (.int .i64 0))))])
  (.seq (.seq (.reg [.o 6 (.ldA 2 (.t 2)),
     .c 7 (.f 79) [.t 6],
     .r 5 (.mv (.t 7))])
  (.seq (.reg [.r 8 (.mv (.t 5)),
     .r 9 (.bin .neq (.t 8) (.c (.d (.int .i64 0))))])
  (.cond (.t 9)
    (.seq (.reg [.r 10 (.mv (.t 5)),
       .r 4 (.mv (.t 10))])
    .ret)
    .skip)))
  (.seq (.seq (.reg (.r 11 (.fld 0 (.t 3)) :: .o 12 (.ld1 (.t 11)) :: .c 13 (.f 82) [.t 12, .c (.d (.int .i64 50))] :: .r 14 (.not (.t 13)) :: .r 15 (.mv (.t 14)) :: gapp [16, 17, 18, 19] 15 false (.r 16 (.fld 1 (.t 3)) :: .r 17 (.ld1 (.t 16)) :: .c 18 (.f 82) [.t 17, .c (.d (.int .i64 20))] :: .r 19 (.not (.t 18)) :: []) (.r 20 (.pick (.t 15) (.c (.d (.bool true))) (.t 19)) :: .r 21 (.mv (.t 20)) :: gapp [22, 23, 24, 25] 21 false (.r 22 (.fld 2 (.t 3)) :: .r 23 (.ld1 (.t 22)) :: .c 24 (.f 82) [.t 23, .c (.d (.int .i64 20))] :: .r 25 (.not (.t 24)) :: []) (.r 26 (.pick (.t 21) (.c (.d (.bool true))) (.t 25)) :: []))))
  (.cond (.t 26)
    (.seq (.reg [.r 4 (.mv (.c (.d (.int .i64 1))))])
    .ret)
    .skip))
  (.seq (.reg [.r 4 (.mv (.c (.d (.int .i64 0))))])
  .ret))))
theorem fit_interchangeref2_checkSpot : fits Tryd.prog 45 Tryd.f45 sc_interchangeref2_checkSpot [.t 4] 2 = true := by kernel_rfl

def sc_interchangeref2_SameSegment_L1 : SC :=
  (.seq (.seq (.reg [.r 47 (.mv (.t 8)),
     .r 48 (.mv (.t 6)),
     .r 49 (.len (.t 48)),
     .r 50 (.bin .lss (.t 47) (.t 49))])
  (.cond (.t 50)
    .skip
    (.exit 2)))
  (.seq (.block 3 (.seq (.regD [.r 53 (.mv (.t 6)),
       .r 54 (.mv (.t 8)),
       .r 55 (.idx 1 (.t 53) (.t 54)),
       .r 56 (.ld1 (.t 55)),
       .r 57 (.mv (.t 7)),
       .r 58 (.mv (.t 8)),
       .r 59 (.idx 1 (.t 57) (.t 58)),
       .r 60 (.ld1 (.t 59)),
       .c 61 (.f 50) [.t 56, .t 60],
       .r 62 (.not (.t 61))])
    (.cond (.t 62)
      (.seq (.reg [.r 4 (.mv (.c (.d (.bool false))))])
      .ret)
      .skip)))
  (.reg [.r 51 (.mv (.t 8)),
     .r 52 (.bin .add (.t 51) (.c (.d (.int .i64 1)))),
     .r 8 (.mv (.t 52))])))
def sc_interchangeref2_SameSegment_B1 : SC := .block 2 (.loop sc_interchangeref2_SameSegment_L1)
def sc_interchangeref2_SameSegment_L2 : SC :=
  (.seq (.seq (.reg [.r 23 (.mv (.t 5)),
     .r 24 (.fld 1 (.t 2)),
     .o 25 (.ld1 (.t 24)),
     .r 26 (.len (.t 25)),
     .r 27 (.bin .lss (.t 23) (.t 26))])
  (.cond (.t 27)
    .skip
    (.exit 0)))
  (.seq (.block 1 (.seq (.regD [.r 30 (.fld 1 (.t 2)),
       .r 31 (.ld1 (.t 30)),
       .r 32 (.mv (.t 5)),
       .r 33 (.idx 1 (.t 31) (.t 32)),
       .r 34 (.fld 0 (.t 33)),
       .r 35 (.ld1 (.t 34)),
       .r 36 (.fld 1 (.t 3)),
       .r 37 (.ld1 (.t 36)),
       .r 38 (.mv (.t 5)),
       .r 39 (.idx 1 (.t 37) (.t 38)),
       .r 40 (.fld 0 (.t 39)),
       .r 41 (.ld1 (.t 40)),
       .r 6 (.mv (.t 35)),
       .r 7 (.mv (.t 41))])
    (.seq (.seq (.reg [.r 42 (.mv (.t 6)),
       .r 43 (.len (.t 42)),
       .r 44 (.mv (.t 7)),
       .r 45 (.len (.t 44)),
       .r 46 (.bin .neq (.t 43) (.t 45))])
    (.cond (.t 46)
      (.seq (.reg [.r 4 (.mv (.c (.d (.bool false))))])
      .ret)
      .skip))
    (.seq (.reg [.r 8 (.mv (.c (.d (.int .i64 0))))])
    sc_interchangeref2_SameSegment_B1))))
  (.reg [.r 28 (.mv (.t 5)),
     .r 29 (.bin .add (.t 28) (.c (.d (.int .i64 1)))),
     .r 5 (.mv (.t 29))])))
def sc_interchangeref2_SameSegment_B2 : SC := .block 0 (.loop sc_interchangeref2_SameSegment_L2)
/-- interchange/interchangeref2.SameSegment -/
def sc_interchangeref2_SameSegment : SC :=
  (.seq (.reg [.r 2 (.boxI (.t 0)),
     .r 3 (.boxI (.t 1)),
     .r 4 (.mv (.c (.d (.bool false))))])
  (.seq (.seq (.reg (.r 9 (.fld 0 (.t 2)) :: .o 10 (.ld1 (.t 9)) :: .r 11 (.fld 0 (.t 3)) :: .o 12 (.ld1 (.t 11)) :: .r 13 (.bin .neq (.t 10) (.t 12)) :: .r 14 (.mv (.t 13)) :: gapp [15, 16, 17, 18, 19, 20, 21] 14 false (.r 15 (.fld 1 (.t 2)) :: .r 16 (.ld1 (.t 15)) :: .r 17 (.len (.t 16)) :: .r 18 (.fld 1 (.t 3)) :: .r 19 (.ld1 (.t 18)) :: .r 20 (.len (.t 19)) :: .r 21 (.bin .neq (.t 17) (.t 20)) :: []) (.r 22 (.pick (.t 14) (.c (.d (.bool true))) (.t 21)) :: [])))
  (.cond (.t 22)
    (.seq (.reg [.r 4 (.mv (.c (.d (.bool false))))])
    .ret)
    .skip))
  (.seq (.seq (.reg [.r 5 (.mv (.c (.d (.int .i64 0))))])
  sc_interchangeref2_SameSegment_B2)
  (.seq (.reg [.r 4 (.mv (.c (.d (.bool true))))])
  .ret))))
theorem fit_interchangeref2_SameSegment : fits Tryd.prog 20 Tryd.f20 sc_interchangeref2_SameSegment [.t 4] 2 = true := by kernel_rfl

set_option maxRecDepth 100000 in
set_option maxHeartbeats 40000000 in
noncomputable def sims_G2_1_0 : (∀ (x0 : Tapi_Spot), {m : Option (Int) // ∀ r, m = some r → PureSpec Tryd.prog 81 [.agg (rTapi_Spot x0)] (.int .i64 r)}) × (∀ (x0 : Tapi_Segment) (x1 : Tapi_Spot), {m : Option (Int) // ∀ r, m = some r → PureSpec Tryd.prog 45 [.agg (rTapi_Segment x0), .agg (rTapi_Spot x1)] (.int .i64 r)}) × (∀ (x0 : Tapi_Segment) (x1 : Tapi_Segment), {m : Option (Bool) // ∀ r, m = some r → PureSpec Tryd.prog 20 [.agg (rTapi_Segment x0), .agg (rTapi_Segment x1)] (.bool r)}) := by
  refine ⟨?g0, ?g1, ?g2⟩
  case' g0 => (intro x0; apply Subtype.mk; intro r hm; apply pure_walk Tryd.func81 fit_wire_spotRange; unfold sc_wire_spotRange)
  case' g1 => (intro x0 x1; apply Subtype.mk; intro r hm; apply pure_walk Tryd.func45 fit_interchangeref2_checkSpot; unfold sc_interchangeref2_checkSpot)
  case' g2 => (intro x0 x1; apply Subtype.mk; intro r hm; apply pure_walk Tryd.func20 fit_interchangeref2_SameSegment; unfold sc_interchangeref2_SameSegment)
  all_goals (repeat' (first | with_reducible refine W_seq ?_ | with_reducible refine W_reg ?_ | with_reducible refine W_regD ?_ | with_reducible refine W_block ?_ | with_reducible refine W_skip ?_ | with_reducible refine W_ret ?_ | with_reducible refine W_exit ?_ | with_reducible refine O_nil ?_ | with_reducible refine K_seq ?_ | with_reducible refine K_seqE ?_ | with_reducible refine K_seqR ?_ | with_reducible refine K_block ?_ | with_reducible refine K_blockR ?_ | with_reducible refine K_blockE ?_ | ((with_reducible apply K_blockN); decide) | with_reducible refine O_o2r ?_ | ((with_reducible apply O_idxr hm); (iterate 2 (simp only [push_cast, seval]; rfl)); (intro _; rfl); intro e hm) | ((with_reducible apply O_idxVr hm); (iterate 3 (simp only [push_cast, seval]; rfl)); intro e hm) | ((with_reducible apply O_r); (simp only [push_cast, seval]; rfl); (first | exact trivial | omega)) | ((with_reducible apply O_ldV1r hm); (iterate 2 (simp only [push_cast, seval]; rfl)); (intro _; rfl); intro e hm) | ((with_reducible apply O_strr hm); (iterate 2 (simp only [push_cast, seval]; rfl)); intro hm) | ((with_reducible apply O_or hm); (simp only [push_cast, seval]; rfl); rfl; intro v hm; rotate_left; intro v g hm) | ((with_reducible apply W_condT); (focus (simp only [push_cast, seval]; done))) | ((with_reducible apply W_condF); (focus (simp only [push_cast, seval]; done))) | ((with_reducible apply O_cS hm); (simp only [push_cast, seval]; rfl); (focus (first | exact spec_kit_Outside _ _ _ | exact spec_interchangeref2_CheckOne _ | exact spec_interchangeref2_within _ _ | exact spec_interchangeref2_SameTexts _ _)); intro x hm) | ((with_reducible apply O_cF hm); (simp only [push_cast, seval]; rfl); (first | apply spec_kit_Outside _ _ _ | apply spec_interchangeref2_CheckOne _ | apply spec_interchangeref2_within _ _ | apply spec_interchangeref2_SameTexts _ _); (any_goals ((repeat' (first | rfl | (with_reducible first | apply fT_Tapi_Element | apply fT_Tapi_Marks | apply fT_Tapi_Segment | apply fT_Tapi_Spot | apply f_optN | apply f_optS | apply f_some | apply f_tup | apply f_agg | apply f_ptr | apply f_fn | apply dv_slice | apply sv_d | apply f_cons | apply fold_nil | apply fold_cons | apply fold_app | apply f_rowI | apply f_rowY | apply f_rowS | apply f_rowB | apply f_rowL) | (with_reducible apply f_byte; decide))); done)); intro x hm) | ((with_reducible apply S_condB hm); (simp only [push_cast, seval]; rfl); intro hm; rotate_left; intro hm) | ((with_reducible apply K_endS hm); (focus (simp only [resOf, resL, RV.get, push_cast, seval]; rfl)); (focus ((repeat' (first | rfl | (with_reducible first | apply fT_Tapi_Element | apply fT_Tapi_Marks | apply fT_Tapi_Segment | apply fT_Tapi_Spot | apply f_optN | apply f_optS | apply f_some | apply f_tup | apply f_agg | apply f_ptr | apply f_fn | apply dv_slice | apply sv_d | apply f_cons | apply fold_nil | apply fold_cons | apply fold_app | apply f_rowI | apply f_rowY | apply f_rowS | apply f_rowB | apply f_rowL) | (with_reducible apply f_byte; decide))); done))) | ((with_reducible apply K_bool hm); (simp only [push_cast, seval]; rfl)) | ((with_reducible apply K_leave hm); intro r hm) | ((with_reducible apply K_leaveR hm); intro r hm) | ((apply S_loopY (b := 2) (X := sc_interchangeref2_SameSegment_B1) (x := sc_interchangeref2_SameSegment_L1) rfl (fun (c : SV × SV × SV × SV × SV) (s : Int) => st [(2, c.1), (3, c.2.1), (5, c.2.2.1), (6, c.2.2.2.1), (7, c.2.2.2.2), (8, .d (.int .i64 s))] []) (c := (_, _, _, _, _)) (s0 := _) hm); (focus (first | (dsimp only; done) | (dsimp only; rfl) | rfl)); (with_reducible refine Then.mk ?_ ?_)) | ((apply S_loopY (b := 0) (X := sc_interchangeref2_SameSegment_B2) (x := sc_interchangeref2_SameSegment_L2) rfl (fun (c : SV × SV) (s : Int) => st [(2, c.1), (3, c.2), (5, .d (.int .i64 s))] []) (c := (_, _)) (s0 := _) hm); (focus (first | (dsimp only; done) | (dsimp only; rfl) | rfl)); (with_reducible refine Then.mk ?_ ?_)) | ((apply K_next (s' := _) hm); (focus (first | (dsimp only; done) | (dsimp only; rfl) | rfl))) | ((apply K_brk (s' := _) hm); (focus (first | (dsimp only; done) | (dsimp only; rfl) | rfl))) | (((with_reducible apply K_brkN hm); (focus decide); intro r hm)) | (((with_reducible apply K_brkR hm); intro r hm)) | (((with_reducible apply LoopB.of); (focus (first | (dsimp only; done) | (dsimp only; rfl) | rfl)); (focus ((intro _; repeat' (first | with_reducible exact impC_end | with_reducible exact impC_endF | with_reducible refine impC_seq ?_ | with_reducible refine impC_block ?_ | ((with_reducible refine impC_rnd ?_); intro _) | ((with_reducible refine impC_brk ?_); intro _))))); (intro s o hm; first | unfold sc_interchangeref2_SameSegment_L1 | unfold sc_interchangeref2_SameSegment_L2); rotate_left; intro s hm)) | (((apply imp_stT; (repeat' (first | with_reducible exact keepT_nil | with_reducible exact keepC_nil | with_reducible apply keepT_cons | with_reducible apply keepC_cons | ((with_reducible apply svle_eq); (focus (first | (simp only [push_cast, seval]; rfl) | rfl)); (focus ((repeat' (first | rfl | (with_reducible first | apply fT_Tapi_Element | apply fT_Tapi_Marks | apply fT_Tapi_Segment | apply fT_Tapi_Spot | apply f_optN | apply f_optS | apply f_some | apply f_tup | apply f_agg | apply f_ptr | apply f_fn | apply dv_slice | apply sv_d | apply f_cons | apply fold_nil | apply fold_cons | apply fold_app | apply f_rowI | apply f_rowY | apply f_rowS | apply f_rowB | apply f_rowL) | (with_reducible apply f_byte; decide))); done))) | ((with_reducible apply svle_td); (focus (first | (simp only [push_cast, seval]; rfl) | rfl)); (focus (first | (simp only [push_cast, seval]; rfl) | rfl)); (focus ((repeat' (first | rfl | (with_reducible first | apply fT_Tapi_Element | apply fT_Tapi_Marks | apply fT_Tapi_Segment | apply fT_Tapi_Spot | apply f_optN | apply f_optS | apply f_some | apply f_tup | apply f_agg | apply f_ptr | apply f_fn | apply dv_slice | apply sv_d | apply f_cons | apply fold_nil | apply fold_cons | apply fold_app | apply f_rowI | apply f_rowY | apply f_rowS | apply f_rowB | apply f_rowL) | (with_reducible apply f_byte; decide))); done))) | ((with_reducible apply chle_eq); (focus (first | (simp only [push_cast, seval]; rfl) | rfl)); (first | with_reducible exact chle_rfl rfl | with_reducible exact chle_map0 | with_reducible apply chle_vec | with_reducible apply chle_box)) | (with_reducible first | apply cT_Tapi_Element | apply cT_Tapi_Marks | apply cT_Tapi_Segment | apply cT_Tapi_Spot | apply r_shS | apply r_shI | apply r_rflO | apply r_oneO | apply r_appO | apply r_nilO | apply c_ownN | apply c_ownL | apply vc_rfl | apply vc_nil | apply vc_cons | apply r_rfl | apply r_rows | apply r_nil | apply r_app | apply r_cons | apply c_rowI | apply c_rowY | apply c_rowS | apply c_rowB | apply c_rowL))); done)))))
noncomputable def m_wire_spotRange (x0 : Tapi_Spot) : Option (Int) := (sims_G2_1_0.1 x0).1
theorem spec_wire_spotRange (x0 : Tapi_Spot) : ∀ r, m_wire_spotRange x0 = some r → PureSpec Tryd.prog 81 [.agg (rTapi_Spot x0)] (.int .i64 r) := (sims_G2_1_0.1 x0).2
noncomputable def m_interchangeref2_checkSpot (x0 : Tapi_Segment) (x1 : Tapi_Spot) : Option (Int) := (sims_G2_1_0.2.1 x0 x1).1
theorem spec_interchangeref2_checkSpot (x0 : Tapi_Segment) (x1 : Tapi_Spot) : ∀ r, m_interchangeref2_checkSpot x0 x1 = some r → PureSpec Tryd.prog 45 [.agg (rTapi_Segment x0), .agg (rTapi_Spot x1)] (.int .i64 r) := (sims_G2_1_0.2.1 x0 x1).2
noncomputable def m_interchangeref2_SameSegment (x0 : Tapi_Segment) (x1 : Tapi_Segment) : Option (Bool) := (sims_G2_1_0.2.2 x0 x1).1
theorem spec_interchangeref2_SameSegment (x0 : Tapi_Segment) (x1 : Tapi_Segment) : ∀ r, m_interchangeref2_SameSegment x0 x1 = some r → PureSpec Tryd.prog 20 [.agg (rTapi_Segment x0), .agg (rTapi_Segment x1)] (.bool r) := (sims_G2_1_0.2.2 x0 x1).2

/-- interchange/wire.spotFault -/
def sc_wire_spotFault : SC :=
  (.seq (.reg [.r 2 (.boxI (.t 0)),
     .r 3 (.boxI (.t 1)),
     .r 4 (.mv (.c (.d (.int .i64 0))))])
  (.seq (.seq (.reg [.o 6 (.ldA 2 (.t 2)),
     .r 7 (.bslice 2 [.t 6]),
     .c 8 (.f 37) [.t 7],
     .r 5 (.mv (.t 8))])
  (.seq (.reg [.r 9 (.mv (.t 5)),
     .r 10 (.bin .neq (.t 9) (.c (.d (.int .i64 0))))])
  (.cond (.t 10)
    (.seq (.reg [.r 11 (.mv (.t 5)),
       .r 4 (.mv (.t 11))])
    .ret)
    .skip)))
  (.seq (.reg [.o 12 (.ldA 3 (.t 3)),
     .c 13 (.f 81) [.t 12],
     .r 4 (.mv (.t 13))])
  .ret)))
theorem fit_wire_spotFault : fits Tryd.prog 43 Tryd.f43 sc_wire_spotFault [.t 4] 2 = true := by kernel_rfl

/-- interchange/interchangeref2.Text -/
def sc_interchangeref2_Text : SC :=
  (.seq (.reg [.r 2 (.boxI (.t 0)),
     .r 3 (.boxI (.t 1)),
     .r 4 (.mv (.c (.d (.str [])))),
     .r 5 (.mv (.c (.d (.bool false)))),
     .r 6 (.mv (.c (.d (.int .i64 0))))])
  (.seq (.seq (.reg [.o 10 (.ldA 2 (.t 2)),
     .o 11 (.ldA 3 (.t 3)),
     .c 12 (.f 45) [.t 10, .t 11],
     .r 7 (.mv (.t 12))])
  (.seq (.reg [.r 13 (.mv (.t 7)),
     .r 14 (.bin .neq (.t 13) (.c (.d (.int .i64 0))))])
  (.cond (.t 14)
    (.seq (.reg [.r 15 (.mv (.t 7)),
       .r 4 (.mv (.c (.d (.str [])))),
       .r 5 (.mv (.c (.d (.bool false)))),
       .r 6 (.mv (.t 15))])
    .ret)
    .skip)))
  (.seq (.reg [.o 17 (.ldA 2 (.t 2)),
     .o 18 (.ldA 3 (.t 3)),
     .c 19 (.f 46) [.t 17, .t 18],
     .r 16 (.mv (.t 19)),
     .r 20 (.ext (.t 16) 0),
     .r 21 (.ext (.t 16) 1),
     .r 8 (.mv (.t 20)),
     .r 9 (.mv (.t 21))])
  (.seq (.reg [.r 22 (.mv (.t 8)),
     .r 23 (.mv (.t 9)),
     .r 4 (.mv (.t 22)),
     .r 5 (.mv (.t 23)),
     .r 6 (.mv (.c (.d (.int .i64 0))))])
  .ret))))
theorem fit_interchangeref2_Text : fits Tryd.prog 17 Tryd.f17 sc_interchangeref2_Text [.t 4, .t 5, .t 6] 2 = true := by kernel_rfl

def sc_interchangeref2_SameSegments_L1 : SC :=
  (.seq (.seq (.reg [.r 11 (.mv (.t 5)),
     .r 12 (.mv (.t 0)),
     .r 13 (.len (.t 12)),
     .r 14 (.bin .lss (.t 11) (.t 13))])
  (.cond (.t 14)
    .skip
    (.exit 0)))
  (.seq (.block 1 (.seq (.regD [.r 17 (.mv (.t 0)),
       .r 18 (.mv (.t 5)),
       .r 19 (.idx 2 (.t 17) (.t 18)),
       .r 20 (.ldA 2 (.t 19)),
       .r 21 (.mv (.t 1)),
       .r 22 (.mv (.t 5)),
       .r 23 (.idx 2 (.t 21) (.t 22)),
       .r 24 (.ldA 2 (.t 23)),
       .c 25 (.f 20) [.t 20, .t 24],
       .r 26 (.not (.t 25))])
    (.cond (.t 26)
      (.seq (.reg [.r 4 (.mv (.c (.d (.bool false))))])
      .ret)
      .skip)))
  (.reg [.r 15 (.mv (.t 5)),
     .r 16 (.bin .add (.t 15) (.c (.d (.int .i64 1)))),
     .r 5 (.mv (.t 16))])))
def sc_interchangeref2_SameSegments_B1 : SC := .block 0 (.loop sc_interchangeref2_SameSegments_L1)
/-- interchange/interchangeref2.SameSegments -/
def sc_interchangeref2_SameSegments : SC :=
  (.seq (.reg [.r 4 (.mv (.c (.d (.bool false))))])
  (.seq (.seq (.reg [.r 6 (.mv (.t 0)),
     .r 7 (.len (.t 6)),
     .r 8 (.mv (.t 1)),
     .r 9 (.len (.t 8)),
     .r 10 (.bin .neq (.t 7) (.t 9))])
  (.cond (.t 10)
    (.seq (.reg [.r 4 (.mv (.c (.d (.bool false))))])
    .ret)
    .skip))
  (.seq (.seq (.reg [.r 5 (.mv (.c (.d (.int .i64 0))))])
  sc_interchangeref2_SameSegments_B1)
  (.seq (.reg [.r 4 (.mv (.c (.d (.bool true))))])
  .ret))))
theorem fit_interchangeref2_SameSegments : fits Tryd.prog 14 Tryd.f14 sc_interchangeref2_SameSegments [.t 4] 2 = true := by kernel_rfl

set_option maxRecDepth 100000 in
set_option maxHeartbeats 40000000 in
noncomputable def sims_G2_2_0 : (∀ (x0 : Tapi_Segment) (x1 : Tapi_Spot), {m : Option (Int) // ∀ r, m = some r → PureSpec Tryd.prog 43 [.agg (rTapi_Segment x0), .agg (rTapi_Spot x1)] (.int .i64 r)}) × (∀ (x0 : Tapi_Segment) (x1 : Tapi_Spot), {m : Option ((List UInt8) × Bool × Int) // ∀ r, m = some r → PureSpec Tryd.prog 17 [.agg (rTapi_Segment x0), .agg (rTapi_Spot x1)] (.tup [.str r.1, .bool r.2.1, .int .i64 r.2.2])}) × (∀ (x0 : List Tapi_Segment) (x1 : List Tapi_Segment), {m : Option (Bool) // ∀ r, m = some r → PureSpec Tryd.prog 14 [.slice (List.map rTapi_Segment x0), .slice (List.map rTapi_Segment x1)] (.bool r)}) := by
  refine ⟨?g0, ?g1, ?g2⟩
  case' g0 => (intro x0 x1; apply Subtype.mk; intro r hm; apply pure_walk Tryd.func43 fit_wire_spotFault; unfold sc_wire_spotFault)
  case' g1 => (intro x0 x1; apply Subtype.mk; intro r hm; apply pure_walk Tryd.func17 fit_interchangeref2_Text; unfold sc_interchangeref2_Text)
  case' g2 => (intro x0 x1; apply Subtype.mk; intro r hm; apply pure_walk Tryd.func14 fit_interchangeref2_SameSegments; unfold sc_interchangeref2_SameSegments)
  all_goals (repeat' (first | with_reducible refine W_seq ?_ | with_reducible refine W_reg ?_ | with_reducible refine W_regD ?_ | with_reducible refine W_block ?_ | with_reducible refine W_skip ?_ | with_reducible refine W_ret ?_ | with_reducible refine W_exit ?_ | with_reducible refine O_nil ?_ | with_reducible refine K_seq ?_ | with_reducible refine K_seqE ?_ | with_reducible refine K_seqR ?_ | with_reducible refine K_block ?_ | with_reducible refine K_blockR ?_ | with_reducible refine K_blockE ?_ | ((with_reducible apply K_blockN); decide) | with_reducible refine O_o2r ?_ | ((with_reducible apply O_idxr hm); (iterate 2 (simp only [push_cast, seval]; rfl)); (intro _; rfl); intro e hm) | ((with_reducible apply O_idxVr hm); (iterate 3 (simp only [push_cast, seval]; rfl)); intro e hm) | ((with_reducible apply O_idxLr hm (row := rTapi_Segment)); (iterate 2 (simp only [push_cast, seval]; rfl)); (focus ((repeat' (first | rfl | (with_reducible first | apply fT_Tapi_Element | apply fT_Tapi_Marks | apply fT_Tapi_Segment | apply fT_Tapi_Spot | apply f_optN | apply f_optS | apply f_some | apply f_tup | apply f_agg | apply f_ptr | apply f_fn | apply dv_slice | apply sv_d | apply f_cons | apply fold_nil | apply fold_cons | apply fold_app | apply f_rowI | apply f_rowY | apply f_rowS | apply f_rowB | apply f_rowL) | (with_reducible apply f_byte; decide))); done)); (simp only [push_cast, seval]; rfl); (intro _; rfl); intro e hm) | ((with_reducible apply O_r); (simp only [push_cast, seval]; rfl); (first | exact trivial | omega)) | ((with_reducible apply O_ldV1r hm); (iterate 2 (simp only [push_cast, seval]; rfl)); (intro _; rfl); intro e hm) | ((with_reducible apply O_strr hm); (iterate 2 (simp only [push_cast, seval]; rfl)); intro hm) | ((with_reducible apply W_condT); (focus (simp only [push_cast, seval]; done))) | ((with_reducible apply W_condF); (focus (simp only [push_cast, seval]; done))) | ((with_reducible apply O_cS hm); (simp only [push_cast, seval]; rfl); (focus (first | exact spec_wire_CheckSegments _ | exact spec_wire_spotRange _ | exact spec_interchangeref2_checkSpot _ _ | exact spec_interchangeref2_PartAt _ _ | exact spec_interchangeref2_SameSegment _ _)); intro x hm) | ((with_reducible apply O_cF hm); (simp only [push_cast, seval]; rfl); (first | apply spec_wire_CheckSegments _ | apply spec_wire_spotRange _ | apply spec_interchangeref2_checkSpot _ _ | apply spec_interchangeref2_PartAt _ _ | apply spec_interchangeref2_SameSegment _ _); (any_goals ((repeat' (first | rfl | (with_reducible first | apply fT_Tapi_Element | apply fT_Tapi_Marks | apply fT_Tapi_Segment | apply fT_Tapi_Spot | apply f_optN | apply f_optS | apply f_some | apply f_tup | apply f_agg | apply f_ptr | apply f_fn | apply dv_slice | apply sv_d | apply f_cons | apply fold_nil | apply fold_cons | apply fold_app | apply f_rowI | apply f_rowY | apply f_rowS | apply f_rowB | apply f_rowL) | (with_reducible apply f_byte; decide))); done)); intro x hm) | ((with_reducible apply S_condB hm); (simp only [push_cast, seval]; rfl); intro hm; rotate_left; intro hm) | ((with_reducible apply K_end3 hm); (focus (simp only [resOf, resL, RV.get, push_cast, seval]; rfl)); (focus (first | (dsimp only; done) | (dsimp only; rfl) | rfl)); (focus ((repeat' (first | rfl | (with_reducible first | apply fT_Tapi_Element | apply fT_Tapi_Marks | apply fT_Tapi_Segment | apply fT_Tapi_Spot | apply f_optN | apply f_optS | apply f_some | apply f_tup | apply f_agg | apply f_ptr | apply f_fn | apply dv_slice | apply sv_d | apply f_cons | apply fold_nil | apply fold_cons | apply fold_app | apply f_rowI | apply f_rowY | apply f_rowS | apply f_rowB | apply f_rowL) | (with_reducible apply f_byte; decide))); done))) | ((with_reducible apply K_endS hm); (focus (simp only [resOf, resL, RV.get, push_cast, seval]; rfl)); (focus ((repeat' (first | rfl | (with_reducible first | apply fT_Tapi_Element | apply fT_Tapi_Marks | apply fT_Tapi_Segment | apply fT_Tapi_Spot | apply f_optN | apply f_optS | apply f_some | apply f_tup | apply f_agg | apply f_ptr | apply f_fn | apply dv_slice | apply sv_d | apply f_cons | apply fold_nil | apply fold_cons | apply fold_app | apply f_rowI | apply f_rowY | apply f_rowS | apply f_rowB | apply f_rowL) | (with_reducible apply f_byte; decide))); done))) | ((with_reducible apply K_leave hm); intro r hm) | ((with_reducible apply K_leaveR hm); intro r hm) | ((apply S_loopY (b := 0) (X := sc_interchangeref2_SameSegments_B1) (x := sc_interchangeref2_SameSegments_L1) rfl (fun (c : SV × SV) (s : Int) => st [(0, c.1), (1, c.2), (5, .d (.int .i64 s))] []) (c := (_, _)) (s0 := _) hm); (focus (first | (dsimp only; done) | (dsimp only; rfl) | rfl)); (with_reducible refine Then.mk ?_ ?_)) | ((apply K_next (s' := _) hm); (focus (first | (dsimp only; done) | (dsimp only; rfl) | rfl))) | ((apply K_brk (s' := _) hm); (focus (first | (dsimp only; done) | (dsimp only; rfl) | rfl))) | (((with_reducible apply K_brkN hm); (focus decide); intro r hm)) | (((with_reducible apply K_brkR hm); intro r hm)) | (((with_reducible apply LoopB.of); (focus (first | (dsimp only; done) | (dsimp only; rfl) | rfl)); (focus ((intro _; repeat' (first | with_reducible exact impC_end | with_reducible exact impC_endF | with_reducible refine impC_seq ?_ | with_reducible refine impC_block ?_ | ((with_reducible refine impC_rnd ?_); intro _) | ((with_reducible refine impC_brk ?_); intro _))))); (intro s o hm; first | unfold sc_interchangeref2_SameSegments_L1); rotate_left; intro s hm)) | (((apply imp_stT; (repeat' (first | with_reducible exact keepT_nil | with_reducible exact keepC_nil | with_reducible apply keepT_cons | with_reducible apply keepC_cons | ((with_reducible apply svle_eq); (focus (first | (simp only [push_cast, seval]; rfl) | rfl)); (focus ((repeat' (first | rfl | (with_reducible first | apply fT_Tapi_Element | apply fT_Tapi_Marks | apply fT_Tapi_Segment | apply fT_Tapi_Spot | apply f_optN | apply f_optS | apply f_some | apply f_tup | apply f_agg | apply f_ptr | apply f_fn | apply dv_slice | apply sv_d | apply f_cons | apply fold_nil | apply fold_cons | apply fold_app | apply f_rowI | apply f_rowY | apply f_rowS | apply f_rowB | apply f_rowL) | (with_reducible apply f_byte; decide))); done))) | ((with_reducible apply svle_td); (focus (first | (simp only [push_cast, seval]; rfl) | rfl)); (focus (first | (simp only [push_cast, seval]; rfl) | rfl)); (focus ((repeat' (first | rfl | (with_reducible first | apply fT_Tapi_Element | apply fT_Tapi_Marks | apply fT_Tapi_Segment | apply fT_Tapi_Spot | apply f_optN | apply f_optS | apply f_some | apply f_tup | apply f_agg | apply f_ptr | apply f_fn | apply dv_slice | apply sv_d | apply f_cons | apply fold_nil | apply fold_cons | apply fold_app | apply f_rowI | apply f_rowY | apply f_rowS | apply f_rowB | apply f_rowL) | (with_reducible apply f_byte; decide))); done))) | ((with_reducible apply chle_eq); (focus (first | (simp only [push_cast, seval]; rfl) | rfl)); (first | with_reducible exact chle_rfl rfl | with_reducible exact chle_map0 | with_reducible apply chle_vec | with_reducible apply chle_box)) | (with_reducible first | apply cT_Tapi_Element | apply cT_Tapi_Marks | apply cT_Tapi_Segment | apply cT_Tapi_Spot | apply r_shS | apply r_shI | apply r_rflO | apply r_oneO | apply r_appO | apply r_nilO | apply c_ownN | apply c_ownL | apply vc_rfl | apply vc_nil | apply vc_cons | apply r_rfl | apply r_rows | apply r_nil | apply r_app | apply r_cons | apply c_rowI | apply c_rowY | apply c_rowS | apply c_rowB | apply c_rowL))); done)))))
noncomputable def m_wire_spotFault (x0 : Tapi_Segment) (x1 : Tapi_Spot) : Option (Int) := (sims_G2_2_0.1 x0 x1).1
theorem spec_wire_spotFault (x0 : Tapi_Segment) (x1 : Tapi_Spot) : ∀ r, m_wire_spotFault x0 x1 = some r → PureSpec Tryd.prog 43 [.agg (rTapi_Segment x0), .agg (rTapi_Spot x1)] (.int .i64 r) := (sims_G2_2_0.1 x0 x1).2
noncomputable def m_interchangeref2_Text (x0 : Tapi_Segment) (x1 : Tapi_Spot) : Option ((List UInt8) × Bool × Int) := (sims_G2_2_0.2.1 x0 x1).1
theorem spec_interchangeref2_Text (x0 : Tapi_Segment) (x1 : Tapi_Spot) : ∀ r, m_interchangeref2_Text x0 x1 = some r → PureSpec Tryd.prog 17 [.agg (rTapi_Segment x0), .agg (rTapi_Spot x1)] (.tup [.str r.1, .bool r.2.1, .int .i64 r.2.2]) := (sims_G2_2_0.2.1 x0 x1).2
noncomputable def m_interchangeref2_SameSegments (x0 : List Tapi_Segment) (x1 : List Tapi_Segment) : Option (Bool) := (sims_G2_2_0.2.2 x0 x1).1
theorem spec_interchangeref2_SameSegments (x0 : List Tapi_Segment) (x1 : List Tapi_Segment) : ∀ r, m_interchangeref2_SameSegments x0 x1 = some r → PureSpec Tryd.prog 14 [.slice (List.map rTapi_Segment x0), .slice (List.map rTapi_Segment x1)] (.bool r) := (sims_G2_2_0.2.2 x0 x1).2

/-- interchange/wire.Text -/
def sc_wire_Text : SC :=
  (.seq (.reg [.r 2 (.boxI (.t 0)),
     .r 3 (.boxI (.t 1)),
     .r 4 (.mv (.c (.d (.str [])))),
     .r 5 (.mv (.c (.d (.bool false)))),
     .r 6 (.mv (.c (.d (.int .i64 0))))])
  (.seq (.seq (.reg [.o 10 (.ldA 2 (.t 2)),
     .o 11 (.ldA 3 (.t 3)),
     .c 12 (.f 43) [.t 10, .t 11],
     .r 7 (.mv (.t 12))])
  (.seq (.reg [.r 13 (.mv (.t 7)),
     .r 14 (.bin .neq (.t 13) (.c (.d (.int .i64 0))))])
  (.cond (.t 14)
    (.seq (.reg [.r 15 (.mv (.t 7)),
       .r 4 (.mv (.c (.d (.str [])))),
       .r 5 (.mv (.c (.d (.bool false)))),
       .r 6 (.mv (.t 15))])
    .ret)
    .skip)))
  (.seq (.reg [.o 17 (.ldA 2 (.t 2)),
     .o 18 (.ldA 3 (.t 3)),
     .c 19 (.f 44) [.t 17, .t 18],
     .r 16 (.mv (.t 19)),
     .r 20 (.ext (.t 16) 0),
     .r 21 (.ext (.t 16) 1),
     .r 8 (.mv (.t 20)),
     .r 9 (.mv (.t 21))])
  (.seq (.reg [.r 22 (.mv (.t 8)),
     .r 23 (.mv (.t 9)),
     .r 4 (.mv (.t 22)),
     .r 5 (.mv (.t 23)),
     .r 6 (.mv (.c (.d (.int .i64 0))))])
  .ret))))
theorem fit_wire_Text : fits Tryd.prog 16 Tryd.f16 sc_wire_Text [.t 4, .t 5, .t 6] 2 = true := by kernel_rfl

set_option maxRecDepth 100000 in
set_option maxHeartbeats 40000000 in
noncomputable def sims_G2_3_0 : (∀ (x0 : Tapi_Segment) (x1 : Tapi_Spot), {m : Option ((List UInt8) × Bool × Int) // ∀ r, m = some r → PureSpec Tryd.prog 16 [.agg (rTapi_Segment x0), .agg (rTapi_Spot x1)] (.tup [.str r.1, .bool r.2.1, .int .i64 r.2.2])}) := by
  (intro x0 x1; apply Subtype.mk; intro r hm; apply pure_walk Tryd.func16 fit_wire_Text; unfold sc_wire_Text)
  repeat' (first | with_reducible refine W_seq ?_ | with_reducible refine W_reg ?_ | with_reducible refine W_block ?_ | with_reducible refine W_skip ?_ | with_reducible refine W_ret ?_ | with_reducible refine W_exit ?_ | with_reducible refine O_nil ?_ | with_reducible refine K_seq ?_ | with_reducible refine K_seqE ?_ | with_reducible refine K_seqR ?_ | with_reducible refine K_block ?_ | with_reducible refine K_blockR ?_ | with_reducible refine K_blockE ?_ | ((with_reducible apply K_blockN); decide) | with_reducible refine O_o2r ?_ | ((with_reducible apply O_r); (simp only [push_cast, seval]; rfl); (first | exact trivial | omega)) | ((with_reducible apply W_condT); (focus (simp only [push_cast, seval]; done))) | ((with_reducible apply W_condF); (focus (simp only [push_cast, seval]; done))) | ((with_reducible apply O_cS hm); (simp only [push_cast, seval]; rfl); (focus (first | exact spec_wire_spotFault _ _ | exact spec_wire_TextAt _ _)); intro x hm) | ((with_reducible apply O_cF hm); (simp only [push_cast, seval]; rfl); (first | apply spec_wire_spotFault _ _ | apply spec_wire_TextAt _ _); (any_goals ((repeat' (first | rfl | (with_reducible first | apply fT_Tapi_Element | apply fT_Tapi_Marks | apply fT_Tapi_Segment | apply fT_Tapi_Spot | apply f_optN | apply f_optS | apply f_some | apply f_tup | apply f_agg | apply f_ptr | apply f_fn | apply dv_slice | apply sv_d | apply f_cons | apply fold_nil | apply fold_cons | apply fold_app | apply f_rowI | apply f_rowY | apply f_rowS | apply f_rowB | apply f_rowL) | (with_reducible apply f_byte; decide))); done)); intro x hm) | ((with_reducible apply S_condB hm); (simp only [push_cast, seval]; rfl); intro hm; rotate_left; intro hm) | ((with_reducible apply K_end3 hm); (focus (simp only [resOf, resL, RV.get, push_cast, seval]; rfl)); (focus (first | (dsimp only; done) | (dsimp only; rfl) | rfl)); (focus ((repeat' (first | rfl | (with_reducible first | apply fT_Tapi_Element | apply fT_Tapi_Marks | apply fT_Tapi_Segment | apply fT_Tapi_Spot | apply f_optN | apply f_optS | apply f_some | apply f_tup | apply f_agg | apply f_ptr | apply f_fn | apply dv_slice | apply sv_d | apply f_cons | apply fold_nil | apply fold_cons | apply fold_app | apply f_rowI | apply f_rowY | apply f_rowS | apply f_rowB | apply f_rowL) | (with_reducible apply f_byte; decide))); done))))
noncomputable def m_wire_Text (x0 : Tapi_Segment) (x1 : Tapi_Spot) : Option ((List UInt8) × Bool × Int) := (sims_G2_3_0 x0 x1).1
theorem spec_wire_Text (x0 : Tapi_Segment) (x1 : Tapi_Spot) : ∀ r, m_wire_Text x0 x1 = some r → PureSpec Tryd.prog 16 [.agg (rTapi_Segment x0), .agg (rTapi_Spot x1)] (.tup [.str r.1, .bool r.2.1, .int .i64 r.2.2]) := (sims_G2_3_0 x0 x1).2

end Go.Proofs.YthailknfgcegoaaDoor

/-
  What Put and Short do with a segment, as plain functions.
-/
namespace Go.Proofs.YthailknfgcegoaaDoor
set_option linter.unusedSimpArgs false
set_option linter.unusedVariables false

/-- A list, made as long as n at least. -/
def padTo {α : Type} (l : List α) (n : Int) (d : α) : List α := l ++ List.replicate (n.toNat - l.length) d
theorem padTo_length {α : Type} {l : List α} {n : Int} {d : α} : n ≤ (padTo l n d).length := by unfold padTo; simp; omega
theorem padTo_done {α : Type} {l : List α} {n : Int} {d : α} (h : n ≤ l.length) : padTo l n d = l := by
  unfold padTo; rw [show n.toNat - l.length = 0 by omega]; simp
theorem padTo_more {α : Type} {l : List α} {n : Int} {d : α} (h : (l.length : Int) < n) : padTo (l ++ [d]) n d = padTo l n d := by
  unfold padTo
  rw [show n.toNat - l.length = (n.toNat - (l ++ [d]).length) + 1 by simp; omega, List.replicate_succ, List.append_assoc]; rfl
def putParts (t : List UInt8) (p : Int) (l : List (List UInt8)) : List (List UInt8) := (padTo l p []).set (p - 1).toNat t
def putReps (t : List UInt8) (r p : Int) (l : List (List (List UInt8))) : List (List (List UInt8)) :=
  let l1 := padTo l r [[]]
  l1.set (r - 1).toNat (putParts t p (l1.getD (r - 1).toNat []))
def putF (x : Tapi_Segment) (a : Tapi_Spot) (t : List UInt8) : Tapi_Segment :=
  let l1 := padTo x.fElements a.fElement ⟨[[[]]]⟩
  ⟨x.fTag, l1.set (a.fElement - 1).toNat ⟨putReps t a.fRepeat a.fPart (l1.getD (a.fElement - 1).toNat ⟨[]⟩).fRepeats⟩⟩
theorem set_zip {α : Type} {l : List α} {i : Nat} {x y : α} (h : l[i]? = some x) : l.take i ++ y :: l.drop (i + 1) = l.set i y := by
  obtain ⟨hlt, _⟩ := List.getElem?_eq_some_iff.1 h
  rw [List.set_eq_take_append_cons_drop, if_pos hlt]

/-- What is empty goes from the end, while there are more than m. -/
def trimE {α : Type} (m : Nat) (e : α → Bool) (l : List α) : List α :=
  if h : m < l.length ∧ (match l[l.length - 1]? with | some x => e x | none => false) = true then trimE m e (l.take (l.length - 1)) else l
termination_by l.length
decreasing_by simp; omega
theorem trimE_step {α : Type} {m : Nat} {e : α → Bool} {l : List α} {x : α} (h : m < l.length) (hx : l[l.length - 1]? = some x) (he : e x = true) : trimE m e (l.take (l.length - 1)) = trimE m e l := by
  conv => rhs; rw [trimE]
  rw [dif_pos ⟨h, by rw [hx]; exact he⟩]
theorem trimE_stop {α : Type} {m : Nat} {e : α → Bool} {l : List α} (h : ¬ m < l.length ∨ ∃ x, l[l.length - 1]? = some x ∧ e x = false) : trimE m e l = l := by
  rw [trimE, dif_neg]
  rintro ⟨h1, h2⟩
  rcases h with h | ⟨x, hx, he⟩
  · exact h h1
  · rw [hx] at h2; simp only [he] at h2; cases h2
def isE (l : List (List UInt8)) : Bool := decide (l = [[]])
def trimP (l : List (List UInt8)) : List (List UInt8) := trimE 1 (fun s => decide (s = [])) l
def trimR (l : List (List (List UInt8))) : List (List (List UInt8)) := trimE 1 isE (l.map trimP)
def shE (e : Tapi_Element) : Tapi_Element := ⟨trimR e.fRepeats⟩
def bareE (e : Tapi_Element) : Bool := decide (e.fRepeats = [[[]]])
def shortF (x : Tapi_Segment) : Tapi_Segment := ⟨x.fTag, trimE 0 bareE (x.fElements.map shE)⟩
/-- The first i have been done. -/
def doneTo {α : Type} (f : α → α) (l : List α) (i : Nat) : List α := (l.take i).map f ++ l.drop i
theorem doneTo_zero {α : Type} {f : α → α} {l : List α} : doneTo f l 0 = l := by simp [doneTo]
theorem doneTo_all {α : Type} {f : α → α} {l : List α} : doneTo f l l.length = l.map f := by simp [doneTo]
theorem doneTo_length {α : Type} {f : α → α} {l : List α} {i : Nat} : (doneTo f l i).length = l.length := by simp [doneTo]; omega
theorem doneTo_get {α : Type} {f : α → α} {l : List α} {i : Nat} {x : α} (h : l[i]? = some x) : (doneTo f l i)[i]? = some x := by
  obtain ⟨hlt, _⟩ := List.getElem?_eq_some_iff.1 h
  have hmin : min i l.length = i := by omega
  unfold doneTo
  rw [List.getElem?_append_right (by simp; omega)]
  simp [hmin, h]
theorem doneTo_set {α : Type} {f : α → α} {l : List α} {i : Nat} {x : α} (h : l[i]? = some x) : (doneTo f l i).set i (f x) = doneTo f l (i + 1) := by
  obtain ⟨hlt, hget⟩ := List.getElem?_eq_some_iff.1 h
  have hmin : min i l.length = i := by omega
  unfold doneTo
  rw [List.set_append_right _ _ (by simp; omega), List.take_succ_eq_append_getElem hlt, hget, List.map_append, List.append_assoc]
  simp only [List.length_map, List.length_take, hmin, Nat.sub_self, List.map_cons, List.map_nil]
  congr 1
  rw [List.drop_eq_getElem_cons hlt, hget]
  rfl
end Go.Proofs.YthailknfgcegoaaDoor

/-
  Calls whose result is an owned slice.
-/
namespace Go.Proofs.YthailknfgcegoaaDoor
set_option linter.unusedSimpArgs false
set_option linter.unusedVariables false
open Go.RowKit Go.Lib

theorem dR_flat : ∀ (rows : List (List DV)), (rows.map dR).flatten = dR rows.flatten
  | [] => rfl
  | r :: rows => by
    have ih := dR_flat rows
    simp only [dR, List.map_cons, List.flatten_cons, List.map_append] at ih ⊢
    rw [ih]
/-- A contract whose result is an owned slice, out of what the kit says of the call. -/
theorem own_spec {P : Program} {f : FuncId} {args : List DV} {rows : List (List DV)} {size e : Nat} (hcall : callable P f = true) (hall : ∀ r ∈ rows, r.length = size)
    (h : ∀ (w : World) (M : Nat → Prop) (vs : List Value), (∀ b, M b → b < w.heap.size) → RepL w M args vs → Calls P f vs.toArray w fun ev w' => ∃ v news, ev = .returned v ∧ w'.ownsRow w.heap.size e size v rows.length news ∧ RepL w M rows.flatten news ∧ (∀ u ∈ news, u.oneCell' = true) ∧ Below w.heap.size w w') :
    FSpec P f (args.map .d) (.own (.sl e (List.replicate size .sh)) (.slice rows)) (args.map .d) := by
  refine ⟨hcall, fun w M vs F hM hF hn hv => ?_⟩
  have hno : SV.noOwns (args.map SV.d) = true := toDVs_noOwns _ _ (dR_toDVs args)
  obtain ⟨hS, rfl⟩ := RepGL.to_S _ _ _ hno hv
  have hR := RepSL.toDVs _ _ _ hS (dR_toDVs args)
  refine (h w _ vs (fun b hb => by rcases hb with hb | hb; exact (hM b hb).1; cases hb) hR).mono ?_
  rintro ev w' ⟨v, news, rfl, ho, hnews, h1, hB⟩
  have hfresh : ∀ b ∈ blkL v, w.heap.size ≤ b ∧ b < w'.heap.size := by
    intro b hb
    rcases ho.2 with ⟨rfl, _⟩ | ⟨g, cap, cur, rfl, hb2, hg, _⟩
    · simp [blkL, blk] at hb
    · simp [blkL, blk] at hb
      subst hb
      exact ⟨hb2, (Array.getElem?_eq_some_iff.1 hg).1⟩
  have hext : Ext w (fun b => M b ∨ b ∈ ([] : List Nat)) w' (fun b => M b ∨ b ∈ [] ++ blkL v) := ⟨hB.size, fun b hb hm => ⟨hB.block b hb, fun hm' => by
    rcases hm' with hm' | hm'
    · exact hm (.inl hm')
    · have := (hfresh b (by simpa using hm')).1; omega⟩⟩
  refine ⟨v, [], blkL v, rfl, RepGL.of_S _ _ (RepSL.of_d (hR.ext hext)), ?_, ?_, ?_, Chg.of_below hB⟩
  · unfold RepG RepO
    refine ⟨rows, news, [], rfl, ⟨by simpa using ho.1, ?_⟩, h1, by simpa using hall, ?_, by simp⟩
    · rcases ho.2 with hn | ⟨g, cap, cur, hv, hb, rest⟩
      · exact .inl hn
      · simp only [List.length_replicate]
        exact .inr ⟨g, cap, cur, hv, Nat.zero_le _, rest⟩
    · refine (ownRows_iff (κ := κ0) (by simpa using hall)).1 ?_
      have e1 : rows.map (ownR (List.replicate size .sh)) = rows.map dR := List.map_congr_left fun r hr => by
        have := ownR_sh (row := fun _ : Unit => r) (n := size) (fun _ => hall r hr) [()]
        simpa [vrow] using this
      rw [e1, dR_flat]
      exact RepGL.of_S _ _ (RepSL.of_d (hnews.ext hext))
  · cases hv' : blk v with
    | none => simp [blkL, hv']
    | some b => simp [blkL, hv']
  · intro b hb
    have := hfresh b (by simpa using hb)
    exact ⟨.inr this.1, this.2⟩

end Go.Proofs.YthailknfgcegoaaDoor

/-
  slices.Clone at any element type, as a contract over data values: what comes back is owned.
-/
namespace Go.Proofs.YthailknfgcegoaaDoor
set_option linter.unusedSimpArgs false
set_option linter.unusedVariables false
open Go.RowKit Go.Shelf Go.Lib
variable {P : Program} {ρ : Ren}

set_option maxHeartbeats 2000000 in
set_option maxRecDepth 100000 in
/-- A slice of length 0 that is not nil, whatever its address. -/
theorem clone_zero (L : SlLaysE0.n41 P ρ) (i0 : TypeInfo) (z : Value) (size bytes : Nat) (hi : P.info? (ρ.t 23) = some i0) (hz0 : i0.zero = some z) (hz1 : i0.size = size) (hz2 : i0.bytes = bytes) (hzs : z.cells.size = size) (hsz : 0 < size)
    (z23 : ∀ w, (Go.sizeOf (ρ.t 23)).run P w = .ok size w) (p : Addr) (c : Nat) (w : World) :
    Calls P (ρ.f 41) #[.slice (some p) 0 c] w fun e w' => ∃ v', e = .returned v' ∧ w'.ownsRow w.heap.size (ρ.t 23) size v' 0 [] ∧ Below w.heap.size w w' := by
  have mixed := L.mixed; have t4 := L.t4; have a4 := L.a4; have z4 := L.z4; have v4 := L.v4; have t22 := L.t22; have a22 := L.a22; have z22 := L.z22; have v22 := L.v22
  have q22 : ∀ (w : World) (a : Option Addr) (n c n' c' : Nat), (binOp .eql (ρ.t 22) (.slice a n c) (.slice none n' c')).run P w = .ok (.bool a.isNone) w := fun w a n c n' c' => Lib.run_eql_slice_nil w _ _ a n c n' c' L.t22
  have u22 : ∀ w, Sem.run P (underlying (ρ.t 22)) w = .ok (TypeDesc.slice (ρ.t 23)) w := run_underlying t22
  obtain ⟨_, _, FG⟩ := L.f41
  go_enter FG, SlBodyN.n41_ntmps ρ
  go_wp2_with (at_builtin; refine wpList_append_own _ rfl _ _ (ρ.t 22) rfl w.heap.size (ρ.t 23) i0 z size bytes t22 hi hz0 hz1 hz2 hzs hsz _ _ _ rfl (World.ownsRow_made w #[] 0 (Nat.le_refl _) (Nat.zero_le _) (by simp)) p 0 c [] rfl ?qc1 ?qc2 ?qc3 ?qc4 ?qc5 ?qc6 ?_)
  case qc1 => simp
  case qc2 => intro j u hj; simp at hj
  case qc3 => simp
  case qc4 => simp
  case qc5 => simp
  case qc6 => simp
  intro v' w1 hown hgrow hnil
  go_wp2
  go_ret
  exact ⟨v', rfl, by simpa using hown, ((Below.refl _ w).alloc (Nat.le_refl _) _).grown hgrow (by simp) (by intro k hk; simp [Value.ownBlock] at hk; omega)⟩

theorem clone_own (L : SlLaysE0.n41 P ρ) (i0 : TypeInfo) (z : Value) (size bytes : Nat) (hi : P.info? (ρ.t 23) = some i0) (hz0 : i0.zero = some z) (hz1 : i0.size = size) (hz2 : i0.bytes = bytes) (hzs : z.cells.size = size) (hsz : 0 < size) (hby : bytes ≤ 1024)
    (z23 : ∀ w, (Go.sizeOf (ρ.t 23)).run P w = .ok size w) (hcall : callable P (ρ.f 41) = true) (rows : List (List DV)) (hall : ∀ r ∈ rows, r.length = size) (hlen : rows.length ≤ 137438953472) : FSpec P (ρ.f 41) (([.slice rows] : List DV).map .d) (.own (.sl (ρ.t 23) (List.replicate size .sh)) (.slice rows)) (([.slice rows] : List DV).map .d) := by
  refine own_spec hcall hall (fun w M vs hM hv => ?_)
  simp only [RepL] at hv
  obtain ⟨u, us, rfl, hu, rfl⟩ := hv
  have hS : RepS w M (fun _ => .pointer none) (.d (.slice rows)) u := by simpa only [RepS] using hu
  obtain ⟨ad, cap, news, hu', k1, k2, k3⟩ := rowsY_rep (sz := size) hS (rows2 := rows.map dR) rfl (by intro r hr; obtain ⟨q, hq, rfl⟩ := List.mem_map.1 hr; simp [dR, hall q hq])
  simp only [List.length_map] at hu'
  subst hu'
  rw [dR_flatten] at k1
  have k1' : RepL w M rows.flatten news := RepSL.toDVs _ _ _ k1 (dR_toDVs _)
  have zero : ∀ (a : Option Addr), rows = [] → Calls P (ρ.f 41) #[.slice a 0 cap] w fun e w' => ∃ v news, e = .returned v ∧ w'.ownsRow w.heap.size (ρ.t 23) size v 0 news ∧ RepL w M ([] : List (List DV)).flatten news ∧ (∀ u ∈ news, u.oneCell' = true) ∧ Below w.heap.size w w' := by
    intro a hr
    subst hr
    cases a with
    | none =>
      refine (AnyE.slices_Clone_nil L 0 cap w).mono ?_
      rintro e w' ⟨rfl, rfl⟩
      exact ⟨_, [], rfl, ⟨by simp, .inl ⟨rfl, rfl⟩⟩, by simp [RepL], by simp, Below.refl _ _⟩
    | some p =>
      refine (clone_zero L i0 z size bytes hi hz0 hz1 hz2 hzs hsz z23 p cap w).mono ?_
      rintro e w' ⟨v', rfl, ho, hB⟩
      exact ⟨v', [], rfl, ho, by simp [RepL], by simp, hB⟩
  rcases k3 with ⟨hr, hn⟩ | ⟨b, o, rfl, hcells⟩
  · have hr' : rows = [] := by simpa using hr
    have := zero ad hr'
    subst hr'
    exact this
  · have hbytes : rows.length * bytes ≤ 140737488355328 := by
      have := Nat.mul_le_mul hlen hby
      omega
    refine (AnyE.slices_Clone L i0 z size bytes hi hz0 hz1 hz2 hzs hsz z23 b o rows.length cap news w (by rw [← flatten_len hall]; exact k1'.len) (by unfold maxLen; omega) hbytes hcells k2).mono ?_
    rintro e w' ⟨v', rfl, ho, _, hB⟩
    exact ⟨v', news, rfl, ho, k1', k2, hB⟩
end Go.Proofs.YthailknfgcegoaaDoor

/-
  DERIVED: THE SHELF's CONTRACTS AT THIS DUMP, IN PLAIN WORDS (tools/lay-plain.mjs out of 'YthailknfgcegoaaDoorShelfC.lean', which tools/lay-shelf.mjs wrote): THE SAME DECLARATIONS UNDER THE SAME NAMES: 'import', 'namespace', 'open', 'def', 'theorem' AND NOTHING ELSE: no command of the shelf's: FOR A HAND-IN. Each laying: the table of numbers ('.._ren') and one theorem, a field a fact of the dump's own or the kernel's comparison; each contract: ONE APPLICATION.
-/
namespace Go.Proofs
open Go.Shelf
def Tryd.lays41_102_ren : Go.Shelf.Ren := ⟨fun | 41 => 102 | n => n, fun | 22 => 29 | 23 => 77 | 4 => 4 | n => n, fun | n => n⟩
theorem Tryd.lays41_102 : Go.Proofs.SlLaysE0.n41 Tryd.prog Tryd.lays41_102_ren := {
  mixed := by kernel_rfl
  f41 := ⟨Tryd.f102.name, by decide, Tryd.func102.trans (congrArg some (by kernel_rfl))⟩
  t4 := Tryd.underlying4
  a4 := Tryd.isAgg4
  z4 := Tryd.sizeOf4
  v4 := Tryd.zeroValue4
  t22 := Tryd.underlying29
  a22 := Tryd.isAgg29
  z22 := Tryd.sizeOf29
  v22 := Tryd.zeroValue29 }
def Tryd.lays41_103_ren : Go.Shelf.Ren := ⟨fun | 41 => 103 | n => n, fun | 22 => 75 | 23 => 67 | 4 => 4 | n => n, fun | n => n⟩
theorem Tryd.lays41_103 : Go.Proofs.SlLaysE0.n41 Tryd.prog Tryd.lays41_103_ren := {
  mixed := by kernel_rfl
  f41 := ⟨Tryd.f103.name, by decide, Tryd.func103.trans (congrArg some (by kernel_rfl))⟩
  t4 := Tryd.underlying4
  a4 := Tryd.isAgg4
  z4 := Tryd.sizeOf4
  v4 := Tryd.zeroValue4
  t22 := Tryd.underlying75
  a22 := Tryd.isAgg75
  z22 := Tryd.sizeOf75
  v22 := Tryd.zeroValue75 }
def Tryd.lays41_104_ren : Go.Shelf.Ren := ⟨fun | 41 => 104 | n => n, fun | 22 => 67 | 23 => 9 | 4 => 4 | n => n, fun | n => n⟩
theorem Tryd.lays41_104 : Go.Proofs.SlLaysE0.n41 Tryd.prog Tryd.lays41_104_ren := {
  mixed := by kernel_rfl
  f41 := ⟨Tryd.f104.name, by decide, Tryd.func104.trans (congrArg some (by kernel_rfl))⟩
  t4 := Tryd.underlying4
  a4 := Tryd.isAgg4
  z4 := Tryd.sizeOf4
  v4 := Tryd.zeroValue4
  t22 := Tryd.underlying67
  a22 := Tryd.isAgg67
  z22 := Tryd.sizeOf67
  v22 := Tryd.zeroValue67 }
def Tryd.lays41_53_ren : Go.Shelf.Ren := ⟨fun | 41 => 53 | n => n, fun | 22 => 42 | 23 => 57 | 4 => 4 | n => n, fun | n => n⟩
theorem Tryd.lays41_53 : Go.Proofs.SlLaysE0.n41 Tryd.prog Tryd.lays41_53_ren := {
  mixed := by kernel_rfl
  f41 := ⟨Tryd.f53.name, by decide, Tryd.func53.trans (congrArg some (by kernel_rfl))⟩
  t4 := Tryd.underlying4
  a4 := Tryd.isAgg4
  z4 := Tryd.sizeOf4
  v4 := Tryd.zeroValue4
  t22 := Tryd.underlying42
  a22 := Tryd.isAgg42
  z22 := Tryd.sizeOf42
  v22 := Tryd.zeroValue42 }
end Go.Proofs

/-
  slices.Clone at some types.
-/
namespace Go.Proofs.YthailknfgcegoaaDoor
open Go.RowKit Go.Shelf Go.Lib
def m_slices_Clone_interchange_api_Element_interchange_api_Element (l : List Tapi_Element) : Option (List Tapi_Element) := if l.length ≤ 137438953472 then some l else none
theorem spec_slices_Clone_interchange_api_Element_interchange_api_Element (l : List Tapi_Element) : ∀ r, m_slices_Clone_interchange_api_Element_interchange_api_Element l = some r → FSpec Tryd.prog 102 (([.slice (List.map rTapi_Element l)] : List DV).map .d) (.own (.sl 77 (List.replicate 1 .sh)) (.slice (List.map rTapi_Element r))) (([.slice (List.map rTapi_Element l)] : List DV).map .d) := by
  intro r hr
  unfold m_slices_Clone_interchange_api_Element_interchange_api_Element at hr
  split at hr
  · rename_i hlen
    cases hr
    exact clone_own Tryd.lays41_102 (i0 := (Tryd.prog.info? 77).get (by kernel_rfl)) (z := ((Tryd.prog.info? 77).get (by kernel_rfl)).zero.get (by kernel_rfl)) (size := 1) (bytes := ((Tryd.prog.info? 77).get (by kernel_rfl)).bytes) (Option.some_get _).symm (Option.some_get _).symm (by kernel_rfl) rfl (by kernel_rfl) (by decide) (of_decide_eq_true (by kernel_rfl)) Tryd.sizeOf77 (by kernel_rfl) (List.map rTapi_Element l) (by intro r hr; obtain ⟨b, _, rfl⟩ := List.mem_map.1 hr; rfl) (by simpa using hlen)
  · cases hr
def m_slices_Clone_LLstring_Lstring (l : List (List (List UInt8))) : Option (List (List (List UInt8))) := if l.length ≤ 137438953472 then some l else none
theorem spec_slices_Clone_LLstring_Lstring (l : List (List (List UInt8))) : ∀ r, m_slices_Clone_LLstring_Lstring l = some r → FSpec Tryd.prog 103 (([.slice (List.map (rowL rowS) l)] : List DV).map .d) (.own (.sl 67 (List.replicate 1 .sh)) (.slice (List.map (rowL rowS) r))) (([.slice (List.map (rowL rowS) l)] : List DV).map .d) := by
  intro r hr
  unfold m_slices_Clone_LLstring_Lstring at hr
  split at hr
  · rename_i hlen
    cases hr
    exact clone_own Tryd.lays41_103 (i0 := (Tryd.prog.info? 67).get (by kernel_rfl)) (z := ((Tryd.prog.info? 67).get (by kernel_rfl)).zero.get (by kernel_rfl)) (size := 1) (bytes := ((Tryd.prog.info? 67).get (by kernel_rfl)).bytes) (Option.some_get _).symm (Option.some_get _).symm (by kernel_rfl) rfl (by kernel_rfl) (by decide) (of_decide_eq_true (by kernel_rfl)) Tryd.sizeOf67 (by kernel_rfl) (List.map (rowL rowS) l) (by intro r hr; obtain ⟨b, _, rfl⟩ := List.mem_map.1 hr; rfl) (by simpa using hlen)
  · cases hr
def m_slices_Clone_Lstring_string (l : List (List UInt8)) : Option (List (List UInt8)) := if l.length ≤ 137438953472 then some l else none
theorem spec_slices_Clone_Lstring_string (l : List (List UInt8)) : ∀ r, m_slices_Clone_Lstring_string l = some r → FSpec Tryd.prog 104 (([.slice (List.map rowS l)] : List DV).map .d) (.own (.sl 9 (List.replicate 1 .sh)) (.slice (List.map rowS r))) (([.slice (List.map rowS l)] : List DV).map .d) := by
  intro r hr
  unfold m_slices_Clone_Lstring_string at hr
  split at hr
  · rename_i hlen
    cases hr
    exact clone_own Tryd.lays41_104 (i0 := (Tryd.prog.info? 9).get (by kernel_rfl)) (z := ((Tryd.prog.info? 9).get (by kernel_rfl)).zero.get (by kernel_rfl)) (size := 1) (bytes := ((Tryd.prog.info? 9).get (by kernel_rfl)).bytes) (Option.some_get _).symm (Option.some_get _).symm (by kernel_rfl) rfl (by kernel_rfl) (by decide) (of_decide_eq_true (by kernel_rfl)) Tryd.sizeOf9 (by kernel_rfl) (List.map rowS l) (by intro r hr; obtain ⟨b, _, rfl⟩ := List.mem_map.1 hr; rfl) (by simpa using hlen)
  · cases hr
end Go.Proofs.YthailknfgcegoaaDoor

/-
  The bodies of some functions in the engine's form, printed by a program of mine (wip/tool/sc.py) out of the translation; each is held against the translation by the kernel.
-/
namespace Go.Proofs.YthailknfgcegoaaDoor

def sc_wire_Clone_L1 : SC :=
  (.seq (.reg [.r 31 (.bin .lss (.t 30) (.t 29))])
  (.seq (.cond (.t 31)
    .skip
    (.exit 2))
  (.seq (.block 3 (.seq (.reg [.r 32 (.mv (.t 30)),
       .r 33 (.idx 1 (.t 28) (.t 30)),
       .o 34 (.ld1 (.t 33)),
       .r 5 (.mv (.t 32)),
       .r 6 (.mv (.t 34))])
    (.regE [.r 35 (.fld 1 (.t 1)),
       .r 36 (.ld1 (.t 35)),
       .r 37 (.mv (.t 3)),
       .r 38 (.idx 1 (.t 36) (.t 37)),
       .r 39 (.fld 0 (.t 38)),
       .r 40 (.ld1 (.t 39)),
       .r 41 (.mv (.t 5)),
       .r 42 (.mv (.t 6)),
       .q 43 (.f 104) [.t 42] [(0, 35, .fld 1 (.t 1)), (1, 36, .ld1 (.t 35)), (2, 37, .mv (.t 3)), (3, 38, .idx 1 (.t 36) (.t 37)), (4, 39, .fld 0 (.t 38)), (5, 40, .ld1 (.t 39)), (6, 41, .mv (.t 5))],
       .r 44 (.idx 1 (.t 40) (.t 41)),
       .x 0 (.st 1 (.t 44) (.t 43)) []])))
  (.reg [.r 45 (.bin .add (.t 30) (.c (.d (.int .i64 1)))),
     .r 30 (.mv (.t 45))]))))
def sc_wire_Clone_B1 : SC := .block 2 (.loop sc_wire_Clone_L1)
def sc_wire_Clone_L2 : SC :=
  (.seq (.reg [.r 15 (.bin .lss (.t 14) (.t 13))])
  (.seq (.cond (.t 15)
    .skip
    (.exit 0))
  (.seq (.block 1 (.seq (.reg [.r 16 (.mv (.t 14)),
       .r 17 (.idx 1 (.t 12) (.t 14)),
       .o 18 (.ldA 1 (.t 17)),
       .w 4 (.boxM (.c (.agg [.nils]))),
       .r 3 (.mv (.t 16)),
       .w 0 (.st 1 (.t 4) (.t 18))])
    (.seq (.regE [.r 19 (.fld 1 (.t 1)),
       .r 20 (.ld1 (.t 19)),
       .r 21 (.mv (.t 3)),
       .r 22 (.fld 0 (.t 4)),
       .r 23 (.ld1 (.t 22)),
       .q 24 (.f 103) [.t 23] [(0, 19, .fld 1 (.t 1)), (1, 20, .ld1 (.t 19)), (2, 21, .mv (.t 3))],
       .r 25 (.idx 1 (.t 20) (.t 21)),
       .r 26 (.fld 0 (.t 25)),
       .x 0 (.st 1 (.t 26) (.t 24)) []])
    (.seq (.reg [.r 27 (.fld 0 (.t 4)),
       .o 28 (.ld1 (.t 27)),
       .r 29 (.len (.t 28)),
       .r 30 (.mv (.c (.d (.int .i64 0))))])
    sc_wire_Clone_B1))))
  (.reg [.r 46 (.bin .add (.t 14) (.c (.d (.int .i64 1)))),
     .r 14 (.mv (.t 46))]))))
def sc_wire_Clone_B2 : SC := .block 0 (.loop sc_wire_Clone_L2)
/-- interchange/wire.Clone -/
def sc_wire_Clone : SC :=
  (.seq (.reg [.w 1 (.boxM (.t 0)),
     .w 2 (.boxM (.c (.agg [.d (.str []), .nils])))])
  (.seq (.reg [.r 7 (.fld 1 (.t 1)),
     .o 8 (.ld1 (.t 7)),
     .p (some 9) (.f 102) [.t 8],
     .r 10 (.fld 1 (.t 1)),
     .w 0 (.st 1 (.t 10) (.t 9))])
  (.seq (.seq (.reg [.r 11 (.fld 1 (.t 1)),
     .o 12 (.ld1 (.t 11)),
     .r 13 (.len (.t 12)),
     .r 14 (.mv (.c (.d (.int .i64 0))))])
  sc_wire_Clone_B2)
  (.seq (.reg [.o 47 (.ldA 2 (.t 1)),
     .w 0 (.st 2 (.t 2) (.t 47))])
  .ret))))
theorem fit_wire_Clone : fits Tryd.prog 77 Tryd.f77 sc_wire_Clone [.cell 2 2] 1 = true := by kernel_rfl

end Go.Proofs.YthailknfgcegoaaDoor

/-
  wire.Clone: a copy of a segment, all of which is owned.
-/
namespace Go.Proofs.YthailknfgcegoaaDoor
set_option linter.unusedSimpArgs false
set_option linter.unusedVariables false
open Go.RowKit

/-- The masks of a segment that owns all of its slices. -/
def msR : List Mask := [.sl 9 [.sh]]
def msE : List Mask := [.sl 67 msR]
def msS : List Mask := [.sh, .sl 77 msE]
def cloneOk (x : Tapi_Segment) : Prop := x.fElements.length ≤ 137438953472 ∧ ∀ e ∈ x.fElements, e.fRepeats.length ≤ 137438953472 ∧ ∀ p ∈ e.fRepeats, p.length ≤ 137438953472
instance (x : Tapi_Segment) : Decidable (cloneOk x) := by unfold cloneOk; infer_instance
def m_wire_Clone (x : Tapi_Segment) : Option Tapi_Segment := if cloneOk x then some x else none

theorem ownR_E0 (y : Tapi_Element) : ownR [.sh] (rTapi_Element y) = [.d (.slice (List.map (rowL rowS) y.fRepeats))] := rfl
theorem ownR_E (y : Tapi_Element) : ownR msE (rTapi_Element y) = [.own (.sl 67 msR) (.slice (List.map (rowL rowS) y.fRepeats))] := rfl
theorem ownR_R0 (y : List (List UInt8)) : ownR [.sh] (rowL rowS y) = [.d (.slice (List.map rowS y))] := rfl
theorem ownR_R (y : List (List UInt8)) : ownR msR (rowL rowS y) = [.own (.sl 9 [.sh]) (.slice (List.map rowS y))] := rfl

set_option maxRecDepth 100000
set_option maxHeartbeats 4000000

theorem own_wire_Clone (x : Tapi_Segment) (hx : cloneOk x) : FSpec Tryd.prog 77 (([.agg (rTapi_Segment x)] : List DV).map .d) (.agg (ownR msS (rTapi_Segment x))) (([.agg (rTapi_Segment x)] : List DV).map .d) := by
  obtain ⟨tag, els⟩ := x
  obtain ⟨hx1, hx2⟩ := hx
  dsimp only at hx1 hx2
  refine fspec_walkD (N := 48) (k := 1) Tryd.func77 fit_wire_Clone (by kernel_rfl) rfl rfl ?_
  unfold sc_wire_Clone
  repeat' (first | ((with_reducible apply O_pD); (focus (simp only [push_cast, seval]; rfl)); (focus exact spec_slices_Clone_interchange_api_Element_interchange_api_Element els els (by unfold m_slices_Clone_interchange_api_Element_interchange_api_Element; rw [if_pos hx1])); (focus rfl); (focus (intro _; rfl))) | with_reducible refine W_seq ?_ | with_reducible refine W_reg ?_ | with_reducible refine W_regD ?_ | with_reducible refine W_regE ?_ | with_reducible refine W_regP ?_ | with_reducible refine W_block ?_ | with_reducible refine W_skip ?_ | with_reducible refine W_ret ?_ | with_reducible refine W_exit ?_ | with_reducible refine O_nil ?_ | with_reducible refine K_seq ?_ | with_reducible refine K_seqE ?_ | with_reducible refine K_seqR ?_ | with_reducible refine K_block ?_ | with_reducible refine K_blockR ?_ | with_reducible refine K_blockE ?_ | with_reducible refine K_forE ?_ | with_reducible refine K_forR ?_ | with_reducible refine K_rndE ?_ | with_reducible refine K_rndR ?_ | with_reducible refine O_o2r ?_ | ((with_reducible apply K_blockN); decide) | ((with_reducible apply O_r); (focus (simp only [push_cast, seval]; rfl)); (focus (first | exact trivial | omega))) | ((with_reducible apply O_w); (focus (simp only [push_cast, seval]; rfl)); (focus (first | exact trivial | omega))) | ((with_reducible apply O_x); (focus (simp only [push_cast, seval]; rfl)); (focus (first | exact trivial | omega)); (focus exact Rer_nil)))
  · unfold sc_wire_Clone_B2 sc_wire_Clone_L2
    refine W_block ?_
    refine W_for (α := Unit) (b0 := 0) (c := 15) (k := 14) (n := 13) (t := 46) (fun i _ => st [(1, .ref 1 0), (2, .ref 2 0), (12, .vec 9), (13, .d (.int .i64 (els.length : Int))), (14, .d (.int .i64 (i : Int))), (48, .d (.agg (rTapi_Segment ⟨tag, els⟩)))]
      [(1, .box [.d (.str tag), .vec 9]), (2, .box [.d (.str []), .nils]), (9, .vec 77 1 (mixO msE [.sh] rTapi_Element els i))]) (fun _ _ => True) els.length () (by omega) (fun _ _ => rfl) (fun _ _ => rfl) ?h0 trivial ?body ?done
    case h0 => exact imp_st (by simp only [keepS, push_cast, seval, and_self]) (by simp only [keepH, push_cast, seval, mixO_zero, and_self])
    case body =>
      intro i _ hi _
      obtain ⟨y, hy⟩ : ∃ y, els[i]? = some y := ⟨els[i], List.getElem?_eq_getElem hi⟩
      have hmem : y ∈ els := List.mem_of_getElem? hy
      obtain ⟨hy1, hy2⟩ := hx2 y hmem
      have hpl : (vrowO msE rTapi_Element (els.take i)).length = i := by rw [vrowO_length]; simp; omega
      have e0 : mixO msE [.sh] rTapi_Element els i = zrow (vrowO msE rTapi_Element (els.take i)) [.d (.slice (List.map (rowL rowS) y.fRepeats))] (vrowO [.sh] rTapi_Element (els.drop (i + 1))) := by
        rw [mixO_zrow hy, ownR_E0]
      dsimp only
      rw [e0]
      repeat' (first | ((with_reducible apply O_idxK); (focus (simp only [push_cast, seval]; rfl)); (focus (simp only [push_cast, seval]; rfl)); (focus (simp only [push_cast, seval]; rfl)); (focus exact hpl); (focus rfl)) | ((with_reducible apply O_ldAK); (focus (simp only [push_cast, seval]; rfl)); (focus (simp only [push_cast, seval]; rfl)); (focus exact hpl); (focus (simp only [push_cast, seval]; rfl)); (focus rfl); (focus simp)) | ((with_reducible apply O_qD); (focus (simp only [push_cast, seval]; rfl)); (focus exact spec_slices_Clone_LLstring_Lstring y.fRepeats y.fRepeats (by unfold m_slices_Clone_LLstring_Lstring; rw [if_pos hy1])); (focus rfl); (focus (intro _; rfl)); (focus ((repeat' (first | exact Rer_nil | ((with_reducible apply Rer_cons); (focus (simp only [push_cast, seval]; rfl)); (focus exact trivial); (focus (simp only [push_cast, seval]))))); done))) | ((with_reducible apply O_stKx); (focus (simp only [push_cast, seval]; rfl)); (focus (simp only [push_cast, seval]; rfl)); (focus (simp only [push_cast, seval]; rfl)); (focus exact hpl); (focus simp); (focus (simp only [push_cast, seval]; rfl)); (focus exact Rer_nil)) | with_reducible refine W_seq ?_ | with_reducible refine W_reg ?_ | with_reducible refine W_regD ?_ | with_reducible refine W_regE ?_ | with_reducible refine W_regP ?_ | with_reducible refine W_block ?_ | with_reducible refine W_skip ?_ | with_reducible refine W_ret ?_ | with_reducible refine W_exit ?_ | with_reducible refine O_nil ?_ | with_reducible refine K_seq ?_ | with_reducible refine K_seqE ?_ | with_reducible refine K_seqR ?_ | with_reducible refine K_block ?_ | with_reducible refine K_blockR ?_ | with_reducible refine K_blockE ?_ | with_reducible refine K_forE ?_ | with_reducible refine K_forR ?_ | with_reducible refine K_rndE ?_ | with_reducible refine K_rndR ?_ | with_reducible refine O_o2r ?_ | ((with_reducible apply K_blockN); decide) | ((with_reducible apply O_r); (focus (simp only [push_cast, seval]; rfl)); (focus (first | exact trivial | omega))) | ((with_reducible apply O_w); (focus (simp only [push_cast, seval]; rfl)); (focus (first | exact trivial | omega))) | ((with_reducible apply O_x); (focus (simp only [push_cast, seval]; rfl)); (focus (first | exact trivial | omega)); (focus exact Rer_nil)))
      · unfold sc_wire_Clone_B1 sc_wire_Clone_L1
        refine W_block ?_
        refine W_for (α := Unit) (b0 := 2) (c := 31) (k := 30) (n := 29) (t := 45) (fun k _ => st [(1, .ref 1 0), (2, .ref 2 0), (3, .d (.int .i64 (i : Int))), (4, .ref 4 0), (12, .vec 9), (13, .d (.int .i64 (els.length : Int))), (14, .d (.int .i64 (i : Int))), (28, .d (.slice (List.map (rowL rowS) y.fRepeats))), (29, .d (.int .i64 (y.fRepeats.length : Int))), (30, .d (.int .i64 (k : Int))), (48, .d (.agg (rTapi_Segment ⟨tag, els⟩)))]
          [(1, .box [.d (.str tag), .vec 9]), (2, .box [.d (.str []), .nils]), (9, .vec 77 1 (zrow (vrowO msE rTapi_Element (els.take i)) [.vec 24] (vrowO [.sh] rTapi_Element (els.drop (i + 1))))), (24, .vec 67 1 (mixO msR [.sh] (rowL rowS) y.fRepeats k))]) (fun _ _ => True) y.fRepeats.length () (by omega) (fun _ _ => rfl) (fun _ _ => rfl) ?g0 trivial ?gbody ?gdone
        case g0 => exact imp_st (by simp only [keepS, push_cast, seval, and_self]) (by simp only [keepH, push_cast, seval, mixO_zero, List.replicate, and_self])
        case gbody =>
          intro k _ hk _
          obtain ⟨z, hz⟩ : ∃ z, y.fRepeats[k]? = some z := ⟨y.fRepeats[k], List.getElem?_eq_getElem hk⟩
          have hz1 := hy2 z (List.mem_of_getElem? hz)
          have hpl2 : (vrowO msR (rowL rowS) (y.fRepeats.take k)).length = k := by rw [vrowO_length]; simp; omega
          have e1 : mixO msR [.sh] (rowL rowS) y.fRepeats k = zrow (vrowO msR (rowL rowS) (y.fRepeats.take k)) [.d (.slice (List.map rowS z))] (vrowO [.sh] (rowL rowS) (y.fRepeats.drop (k + 1))) := by
            rw [mixO_zrow hz, ownR_R0]
          have e2 : mixO msR [.sh] (rowL rowS) y.fRepeats (k + 1) = zrow (vrowO msR (rowL rowS) (y.fRepeats.take k)) [.own (.sl 9 [.sh]) (.slice (List.map rowS z))] (vrowO [.sh] (rowL rowS) (y.fRepeats.drop (k + 1))) := by
            rw [← zrow_mixO hz, ownR_R]
          dsimp only
          rw [e1]
          repeat' (first | ((with_reducible apply O_idxK); (focus (simp only [push_cast, seval]; rfl)); (focus (simp only [push_cast, seval]; rfl)); (focus (simp only [push_cast, seval]; rfl)); (focus (first | exact hpl | exact hpl2)); (focus rfl)) | ((with_reducible apply O_idxD); (focus (simp only [push_cast, seval]; rfl)); (focus (simp only [push_cast, seval]; rfl)); (focus (intro _; rfl)); (focus exact getI_ofN hz)) | ((with_reducible apply O_ldK); (focus (simp only [push_cast, seval]; rfl)); (focus (simp only [push_cast, seval]; rfl)); (focus exact hpl); (focus (simp only [push_cast, seval]; rfl)); (focus rfl)) | ((with_reducible apply O_qD); (focus (simp only [push_cast, seval]; rfl)); (focus exact spec_slices_Clone_Lstring_string z z (by unfold m_slices_Clone_Lstring_string; rw [if_pos hz1])); (focus rfl); (focus (intro _; rfl)); (focus ((repeat' (first | exact Rer_nil | ((with_reducible apply Rer_idxK); (focus (simp only [push_cast, seval]; rfl)); (focus (simp only [push_cast, seval]; rfl)); (focus (simp only [push_cast, seval]; rfl)); (focus exact hpl); (focus rfl); (focus (simp only [push_cast, seval]; (try rfl); done))) | ((with_reducible apply Rer_ldK); (focus (simp only [push_cast, seval]; rfl)); (focus (simp only [push_cast, seval]; rfl)); (focus exact hpl); (focus (simp only [push_cast, seval]; rfl)); (focus rfl); (focus (simp only [push_cast, seval]; (try rfl); done))) | ((with_reducible apply Rer_cons); (focus (simp only [push_cast, seval]; rfl)); (focus exact trivial); (focus (simp only [push_cast, seval]))))); done))) | ((with_reducible apply O_stKx); (focus (simp only [push_cast, seval]; rfl)); (focus (simp only [push_cast, seval]; rfl)); (focus (simp only [push_cast, seval]; rfl)); (focus exact hpl2); (focus simp); (focus (simp only [push_cast, seval]; rfl)); (focus exact Rer_nil)) | with_reducible refine W_seq ?_ | with_reducible refine W_reg ?_ | with_reducible refine W_regD ?_ | with_reducible refine W_regE ?_ | with_reducible refine W_regP ?_ | with_reducible refine W_block ?_ | with_reducible refine W_skip ?_ | with_reducible refine W_ret ?_ | with_reducible refine W_exit ?_ | with_reducible refine O_nil ?_ | with_reducible refine K_seq ?_ | with_reducible refine K_seqE ?_ | with_reducible refine K_seqR ?_ | with_reducible refine K_block ?_ | with_reducible refine K_blockR ?_ | with_reducible refine K_blockE ?_ | with_reducible refine K_forE ?_ | with_reducible refine K_forR ?_ | with_reducible refine K_rndE ?_ | with_reducible refine K_rndR ?_ | with_reducible refine O_o2r ?_ | ((with_reducible apply K_blockN); decide) | ((with_reducible apply O_r); (focus (simp only [push_cast, seval]; rfl)); (focus (first | exact trivial | omega))) | ((with_reducible apply O_w); (focus (simp only [push_cast, seval]; rfl)); (focus (first | exact trivial | omega))) | ((with_reducible apply O_x); (focus (simp only [push_cast, seval]; rfl)); (focus (first | exact trivial | omega)); (focus exact Rer_nil)))
          · apply K_for ()
            (focus (simp only [push_cast, seval]))
            rotate_left
            (focus exact trivial)
            refine Imp.trans (imp_closeZ (id := 24) (cid := 43) (off := 0) (ms' := [.sh]) (row' := rowS) (y := z) (k := k) (by (simp only [push_cast, seval]; (try rfl); done)) (by (simp only [push_cast, seval]; (try rfl); done)) hpl2.symm (by (simp only [push_cast, seval]; (try rfl); done)) r_rflO rfl (fun _ => rfl) (by decide) (by (simp only [push_cast, seval]; (try rfl); done))) ?_
            exact imp_st (by simp only [keepS, push_cast, seval, and_self]) (by simp only [keepH, push_cast, seval, e2, and_self])
        case gdone =>
          intro _ _
          refine K_block ?_
          have e3 : mixO msE [.sh] rTapi_Element els (i + 1) = zrow (vrowO msE rTapi_Element (els.take i)) [.own (.sl 67 msR) (.slice (List.map (rowL rowS) y.fRepeats))] (vrowO [.sh] rTapi_Element (els.drop (i + 1))) := by
            rw [← zrow_mixO hy, ownR_E]
          dsimp only
          rw [mixO_all]
          apply K_for ()
          (focus (simp only [push_cast, seval]))
          rotate_left
          (focus exact trivial)
          refine Imp.trans (imp_closeZ (id := 9) (cid := 24) (off := 0) (ms' := msR) (row' := rowL rowS) (y := y.fRepeats) (k := i) (by (simp only [push_cast, seval]; (try rfl); done)) (by (simp only [push_cast, seval]; (try rfl); done)) hpl.symm (by (simp only [push_cast, seval]; (try rfl); done)) r_rflO rfl (fun _ => rfl) (by decide) (by (simp only [push_cast, seval]; (try rfl); done))) ?_
          exact imp_st (by simp only [keepS, push_cast, seval, and_self]) (by simp only [keepH, push_cast, seval, e3, and_self])
    case done =>
      intro _ _
      dsimp only
      rw [mixO_all]
      repeat' (first | with_reducible refine W_seq ?_ | with_reducible refine W_reg ?_ | with_reducible refine W_regD ?_ | with_reducible refine W_regE ?_ | with_reducible refine W_regP ?_ | with_reducible refine W_block ?_ | with_reducible refine W_skip ?_ | with_reducible refine W_ret ?_ | with_reducible refine W_exit ?_ | with_reducible refine O_nil ?_ | with_reducible refine K_seq ?_ | with_reducible refine K_seqE ?_ | with_reducible refine K_seqR ?_ | with_reducible refine K_block ?_ | with_reducible refine K_blockR ?_ | with_reducible refine K_blockE ?_ | with_reducible refine K_forE ?_ | with_reducible refine K_forR ?_ | with_reducible refine K_rndE ?_ | with_reducible refine K_rndR ?_ | with_reducible refine O_o2r ?_ | ((with_reducible apply K_blockN); decide) | ((with_reducible apply O_r); (focus (simp only [push_cast, seval]; rfl)); (focus (first | exact trivial | omega))) | ((with_reducible apply O_w); (focus (simp only [push_cast, seval]; rfl)); (focus (first | exact trivial | omega))) | ((with_reducible apply O_x); (focus (simp only [push_cast, seval]; rfl)); (focus (first | exact trivial | omega)); (focus exact Rer_nil)))
      · apply K_endO (r0 := (⟨tag, els⟩ : Tapi_Segment)) (r := ⟨tag, els⟩) (row := rTapi_Segment) rfl (Imp.refl _)
        (focus (simp only [push_cast, seval]; rfl))
        (focus (simp only [push_cast, seval]; rfl))
        (focus (simp only [push_cast, seval]; (try rfl); done))
        (focus exact ROkL.data rfl (ROk_vec (l := els) (row := rTapi_Element) (ms := msE) (by (simp only [push_cast, seval]; (try rfl); done)) rfl (fun _ => rfl) (by simp) ROkL.nil))
        (focus rfl)
theorem spec_wire_Clone (x : Tapi_Segment) : ∀ r, m_wire_Clone x = some r → FSpec Tryd.prog 77 (([.agg (rTapi_Segment x)] : List DV).map .d) (.agg (ownR msS (rTapi_Segment r))) (([.agg (rTapi_Segment x)] : List DV).map .d) := by
  intro r hr
  unfold m_wire_Clone at hr
  split at hr
  · rename_i hx; cases hr; exact own_wire_Clone x hx
  · cases hr
end Go.Proofs.YthailknfgcegoaaDoor

/-
  The bodies of some functions in the engine's form, printed by a program of mine (wip/tool/sc.py) out of the translation; each is held against the translation by the kernel.
-/
namespace Go.Proofs.YthailknfgcegoaaDoor

def sc_wire_PutAt_L1 : SC :=
  (.seq (.seq (.reg [.r 11 (.fld 1 (.t 3)),
     .o 12 (.ld1 (.t 11)),
     .r 13 (.len (.t 12)),
     .r 14 (.fld 0 (.t 4)),
     .o 15 (.ld1 (.t 14)),
     .r 16 (.bin .lss (.t 13) (.t 15))])
  (.cond (.t 16)
    .skip
    (.exit 0)))
  (.block 1 (.reg [.r 17 (.fld 1 (.t 3)),
       .o 18 (.ld1 (.t 17)),
       .w 19 (.slM 9 1 [.c (.d (.str []))]),
       .w 20 (.slM 67 1 [.t 19]),
       .r 21 (.build [.nils] [(0, 1, .t 20)]),
       .r 22 (.bslice 1 [.t 21]),
       .w 23 (.app 77 1 (.t 18) (.t 22)),
       .r 24 (.fld 1 (.t 3)),
       .w 0 (.st 1 (.t 24) (.t 23))])))
def sc_wire_PutAt_B1 : SC := .block 0 (.loop sc_wire_PutAt_L1)
def sc_wire_PutAt_L2 : SC :=
  (.seq (.seq (.regD [.r 31 (.mv (.t 7)),
     .r 32 (.nilc (.t 31)),
     .r 33 (.fld 0 (.t 32)),
     .r 34 (.ld1 (.t 33)),
     .r 35 (.len (.t 34)),
     .r 36 (.fld 1 (.t 4)),
     .r 37 (.ld1 (.t 36)),
     .r 38 (.bin .lss (.t 35) (.t 37))])
  (.cond (.t 38)
    .skip
    (.exit 2)))
  (.block 3 (.reg [.r 39 (.mv (.t 7)),
       .r 40 (.mv (.t 7)),
       .r 41 (.nilc (.t 40)),
       .r 42 (.fld 0 (.t 41)),
       .o 43 (.ld1 (.t 42)),
       .w 44 (.slM 9 1 [.c (.d (.str []))]),
       .r 45 (.bslice 1 [.t 44]),
       .w 46 (.app 67 1 (.t 43) (.t 45)),
       .r 47 (.nilc (.t 39)),
       .r 48 (.fld 0 (.t 47)),
       .w 0 (.st 1 (.t 48) (.t 46))])))
def sc_wire_PutAt_B2 : SC := .block 2 (.loop sc_wire_PutAt_L2)
def sc_wire_PutAt_L3 : SC :=
  (.seq (.seq (.regD [.r 57 (.mv (.t 8)),
     .r 58 (.nilc (.t 57)),
     .r 59 (.ld1 (.t 58)),
     .r 60 (.len (.t 59)),
     .r 61 (.fld 2 (.t 4)),
     .r 62 (.ld1 (.t 61)),
     .r 63 (.bin .lss (.t 60) (.t 62))])
  (.cond (.t 63)
    .skip
    (.exit 4)))
  (.block 5 (.reg [.r 64 (.mv (.t 8)),
       .r 65 (.mv (.t 8)),
       .r 66 (.nilc (.t 65)),
       .o 67 (.ld1 (.t 66)),
       .r 68 (.bslice 1 [.c (.d (.str []))]),
       .w 69 (.app 9 1 (.t 67) (.t 68)),
       .r 70 (.nilc (.t 64)),
       .w 0 (.st 1 (.t 70) (.t 69))])))
def sc_wire_PutAt_B3 : SC := .block 4 (.loop sc_wire_PutAt_L3)
/-- interchange/wire.PutAt -/
def sc_wire_PutAt : SC :=
  (.seq (.reg [.w 3 (.boxM (.t 0)),
     .r 4 (.boxI (.t 1)),
     .w 6 (.boxM (.c (.agg [.d (.str []), .nils])))])
  (.seq (.reg [.o 9 (.ldA 2 (.t 3)),
     .p (some 10) (.f 77) [.t 9],
     .w 0 (.st 2 (.t 3) (.t 10))])
  (.seq sc_wire_PutAt_B1
  (.seq (.reg [.r 25 (.fld 1 (.t 3)),
     .o 26 (.ld1 (.t 25)),
     .r 27 (.fld 0 (.t 4)),
     .o 28 (.ld1 (.t 27)),
     .r 29 (.bin .sub (.t 28) (.c (.d (.int .i64 1)))),
     .r 30 (.idx 1 (.t 26) (.t 29)),
     .r 7 (.mv (.t 30))])
  (.seq sc_wire_PutAt_B2
  (.seq (.regD [.r 49 (.mv (.t 7)),
     .r 50 (.nilc (.t 49)),
     .r 51 (.fld 0 (.t 50)),
     .r 52 (.ld1 (.t 51)),
     .r 53 (.fld 1 (.t 4)),
     .r 54 (.ld1 (.t 53)),
     .r 55 (.bin .sub (.t 54) (.c (.d (.int .i64 1)))),
     .r 56 (.idx 1 (.t 52) (.t 55)),
     .r 8 (.mv (.t 56))])
  (.seq sc_wire_PutAt_B3
  (.seq (.regE [.r 71 (.mv (.t 8)),
     .r 72 (.nilc (.t 71)),
     .r 73 (.ld1 (.t 72)),
     .r 74 (.fld 2 (.t 4)),
     .r 75 (.ld1 (.t 74)),
     .r 76 (.bin .sub (.t 75) (.c (.d (.int .i64 1)))),
     .r 77 (.mv (.t 2)),
     .r 78 (.idx 1 (.t 73) (.t 76)),
     .x 0 (.st 1 (.t 78) (.t 77)) []])
  (.seq (.reg [.o 79 (.ldA 2 (.t 3)),
     .w 0 (.st 2 (.t 6) (.t 79))])
  .ret)))))))))
theorem fit_wire_PutAt : fits Tryd.prog 48 Tryd.f48 sc_wire_PutAt [.cell 6 2] 3 = true := by kernel_rfl

def sc_wire_short_L1 : SC :=
  (.seq (.seq (.reg (.r 31 (.mv (.t 6)) :: .r 32 (.len (.t 31)) :: .r 33 (.bin .gtr (.t 32) (.c (.d (.int .i64 1)))) :: .r 34 (.mv (.t 33)) :: gapp [35, 36, 37, 38, 39, 40, 41] 34 true (.r 35 (.mv (.t 6)) :: .r 36 (.mv (.t 6)) :: .r 37 (.len (.t 36)) :: .r 38 (.bin .sub (.t 37) (.c (.d (.int .i64 1)))) :: .r 39 (.idx 1 (.t 35) (.t 38)) :: .r 40 (.ld1 (.t 39)) :: .r 41 (.bin .eql (.t 40) (.c (.d (.str [])))) :: []) (.r 42 (.pick (.t 34) (.t 41) (.c (.d (.bool false)))) :: [])))
  (.cond (.t 42)
    .skip
    (.exit 4)))
  (.block 5 (.reg [.r 43 (.mv (.t 6)),
       .r 44 (.mv (.t 6)),
       .r 45 (.len (.t 44)),
       .r 46 (.bin .sub (.t 45) (.c (.d (.int .i64 1)))),
       .r 47 (.slc 1 (.t 43) none (some (.t 46))),
       .r 6 (.mv (.t 47))])))
def sc_wire_short_B1 : SC := .block 4 (.loop sc_wire_short_L1)
def sc_wire_short_L2 : SC :=
  (.seq (.reg [.r 27 (.bin .lss (.t 26) (.t 25))])
  (.seq (.cond (.t 27)
    .skip
    (.exit 2))
  (.seq (.block 3 (.seq (.reg [.r 28 (.mv (.t 26)),
       .r 29 (.idx 1 (.t 24) (.t 26)),
       .o 30 (.ld1 (.t 29)),
       .r 5 (.mv (.t 28)),
       .r 6 (.mv (.t 30))])
    (.seq sc_wire_short_B1
    (.reg [.r 48 (.mv (.t 4)),
       .r 49 (.nilc (.t 48)),
       .r 50 (.fld 0 (.t 49)),
       .o 51 (.ld1 (.t 50)),
       .r 52 (.mv (.t 5)),
       .r 53 (.mv (.t 6)),
       .r 54 (.idx 1 (.t 51) (.t 52)),
       .w 0 (.st 1 (.t 54) (.t 53))]))))
  (.reg [.r 55 (.bin .add (.t 26) (.c (.d (.int .i64 1)))),
     .r 26 (.mv (.t 55))]))))
def sc_wire_short_B2 : SC := .block 2 (.loop sc_wire_short_L2)
def sc_wire_short_L3 : SC :=
  (.seq (.seq (.regD (.r 56 (.mv (.t 4)) :: .r 57 (.nilc (.t 56)) :: .r 58 (.fld 0 (.t 57)) :: .r 59 (.ld1 (.t 58)) :: .r 60 (.len (.t 59)) :: .r 61 (.bin .gtr (.t 60) (.c (.d (.int .i64 1)))) :: .r 62 (.mv (.t 61)) :: gapp [63, 64, 65, 66, 67, 68, 69, 70, 71, 72, 73, 74, 75] 62 true (.r 63 (.mv (.t 4)) :: .r 64 (.nilc (.t 63)) :: .r 65 (.fld 0 (.t 64)) :: .r 66 (.ld1 (.t 65)) :: .r 67 (.mv (.t 4)) :: .r 68 (.nilc (.t 67)) :: .r 69 (.fld 0 (.t 68)) :: .r 70 (.ld1 (.t 69)) :: .r 71 (.len (.t 70)) :: .r 72 (.bin .sub (.t 71) (.c (.d (.int .i64 1)))) :: .r 73 (.idx 1 (.t 66) (.t 72)) :: .r 74 (.ld1 (.t 73)) :: .c 75 (.f 78) [.t 74] :: []) (.r 76 (.pick (.t 62) (.t 75) (.c (.d (.bool false)))) :: [])))
  (.cond (.t 76)
    .skip
    (.exit 6)))
  (.block 7 (.regE [.r 77 (.mv (.t 4)),
       .r 78 (.mv (.t 4)),
       .r 79 (.nilc (.t 78)),
       .r 80 (.fld 0 (.t 79)),
       .r 81 (.ld1 (.t 80)),
       .r 82 (.mv (.t 4)),
       .r 83 (.nilc (.t 82)),
       .r 84 (.fld 0 (.t 83)),
       .r 85 (.ld1 (.t 84)),
       .r 86 (.len (.t 85)),
       .r 87 (.bin .sub (.t 86) (.c (.d (.int .i64 1)))),
       .x 88 (.trunc 1 (.t 81) (.t 87)) [(0, 77, .mv (.t 4))],
       .r 89 (.nilc (.t 77)),
       .r 90 (.fld 0 (.t 89)),
       .x 0 (.st 1 (.t 90) (.t 88)) []])))
def sc_wire_short_B3 : SC := .block 6 (.loop sc_wire_short_L3)
def sc_wire_short_L4 : SC :=
  (.seq (.reg [.r 15 (.bin .lss (.t 14) (.t 13))])
  (.seq (.cond (.t 15)
    .skip
    (.exit 0))
  (.seq (.block 1 (.seq (.reg [.r 16 (.mv (.t 14)),
       .r 3 (.mv (.t 16))])
    (.seq (.reg [.r 17 (.fld 1 (.t 1)),
       .o 18 (.ld1 (.t 17)),
       .r 19 (.mv (.t 3)),
       .r 20 (.idx 1 (.t 18) (.t 19)),
       .r 4 (.mv (.t 20))])
    (.seq (.seq (.reg [.r 21 (.mv (.t 4)),
       .r 22 (.nilc (.t 21)),
       .r 23 (.fld 0 (.t 22)),
       .o 24 (.ld1 (.t 23)),
       .r 25 (.len (.t 24)),
       .r 26 (.mv (.c (.d (.int .i64 0))))])
    sc_wire_short_B2)
    sc_wire_short_B3))))
  (.reg [.r 91 (.bin .add (.t 14) (.c (.d (.int .i64 1)))),
     .r 14 (.mv (.t 91))]))))
def sc_wire_short_B4 : SC := .block 0 (.loop sc_wire_short_L4)
def sc_wire_short_L5 : SC :=
  (.seq (.seq (.reg [.r 95 (.mv (.t 7)),
     .r 96 (.bin .gtr (.t 95) (.c (.d (.int .i64 0))))])
  (.cond (.t 96)
    .skip
    (.exit 8)))
  (.seq (.block 9 (.seq (.seq (.reg [.r 99 (.fld 1 (.t 1)),
       .o 100 (.ld1 (.t 99)),
       .r 101 (.mv (.t 7)),
       .r 102 (.bin .sub (.t 101) (.c (.d (.int .i64 1)))),
       .r 103 (.idx 1 (.t 100) (.t 102)),
       .r 104 (.fld 0 (.t 103)),
       .o 105 (.ld1 (.t 104)),
       .r 8 (.mv (.t 105))])
    (.seq (.reg (.r 106 (.mv (.t 8)) :: .r 107 (.len (.t 106)) :: .r 108 (.bin .neq (.t 107) (.c (.d (.int .i64 1)))) :: .r 109 (.mv (.t 108)) :: gapp [110, 111, 112, 113, 114] 109 false (.r 110 (.mv (.t 8)) :: .r 111 (.idx 1 (.t 110) (.c (.d (.int .i64 0)))) :: .r 112 (.ld1 (.t 111)) :: .c 113 (.f 78) [.t 112] :: .r 114 (.not (.t 113)) :: []) (.r 115 (.pick (.t 109) (.c (.d (.bool true))) (.t 114)) :: [])))
    (.cond (.t 115)
      (.exit 8)
      .skip)))
    (.reg [.r 116 (.fld 1 (.t 1)),
       .o 117 (.ld1 (.t 116)),
       .r 118 (.mv (.t 7)),
       .r 119 (.bin .sub (.t 118) (.c (.d (.int .i64 1)))),
       .w 120 (.trunc 1 (.t 117) (.t 119)),
       .r 121 (.fld 1 (.t 1)),
       .w 0 (.st 1 (.t 121) (.t 120))])))
  (.reg [.r 97 (.mv (.t 7)),
     .r 98 (.bin .sub (.t 97) (.c (.d (.int .i64 1)))),
     .r 7 (.mv (.t 98))])))
def sc_wire_short_B5 : SC := .block 8 (.loop sc_wire_short_L5)
/-- interchange/wire.short -/
def sc_wire_short : SC :=
  (.seq (.reg [.w 1 (.boxM (.t 0)),
     .w 2 (.boxM (.c (.agg [.d (.str []), .nils])))])
  (.seq (.reg [.o 9 (.ldA 2 (.t 1)),
     .p (some 10) (.f 77) [.t 9],
     .w 0 (.st 2 (.t 1) (.t 10))])
  (.seq (.seq (.reg [.r 11 (.fld 1 (.t 1)),
     .o 12 (.ld1 (.t 11)),
     .r 13 (.len (.t 12)),
     .r 14 (.mv (.c (.d (.int .i64 0))))])
  sc_wire_short_B4)
  (.seq (.seq (.reg [.r 92 (.fld 1 (.t 1)),
     .o 93 (.ld1 (.t 92)),
     .r 94 (.len (.t 93)),
     .r 7 (.mv (.t 94))])
  sc_wire_short_B5)
  (.seq (.reg [.o 122 (.ldA 2 (.t 1)),
     .w 0 (.st 2 (.t 2) (.t 122))])
  .ret)))))
theorem fit_wire_short : fits Tryd.prog 38 Tryd.f38 sc_wire_short [.cell 2 2] 1 = true := by kernel_rfl

end Go.Proofs.YthailknfgcegoaaDoor

/-
  wire.PutAt: what it does with a right segment at a right spot.
-/
namespace Go.Proofs.YthailknfgcegoaaDoor
set_option linter.unusedSimpArgs false
set_option linter.unusedVariables false
open Go.RowKit

set_option maxRecDepth 100000
set_option maxHeartbeats 4000000

def E0 : Tapi_Element := ⟨[[[]]]⟩
theorem ownR_E0' : ownR msE (rTapi_Element E0) = [.own (.sl 67 msR) (.slice [[.slice [[.str []]]]])] := rfl

theorem pure_wire_PutAt (tag : List UInt8) (els : List Tapi_Element) (e r p : Int) (t : List UInt8) (hx : cloneOk ⟨tag, els⟩) (he : 1 ≤ e ∧ e ≤ 1000000) (hr : 1 ≤ r ∧ r ≤ 1000000) (hp : 1 ≤ p ∧ p ≤ 1000000) :
    PureSpec Tryd.prog 48 [.agg (rTapi_Segment ⟨tag, els⟩), .agg (rTapi_Spot ⟨e, r, p⟩), .str t] (.agg (rTapi_Segment (putF ⟨tag, els⟩ ⟨e, r, p⟩ t))) := by
  refine pure_walk Tryd.func48 fit_wire_PutAt ?_
  unfold sc_wire_PutAt
  repeat' (first | ((with_reducible apply O_pAD (x := .agg [.d (.str tag), .vec 10]) (ch := .vec _ 1 (vrowO msE rTapi_Element els)) (mk := .vec) (m := .sl _ msE) (v := .slice (List.map rTapi_Element els))); (focus (simp only [push_cast, seval]; rfl)); (focus exact spec_wire_Clone ⟨tag, els⟩ ⟨tag, els⟩ (by unfold m_wire_Clone; rw [if_pos hx])); (focus rfl); (focus rfl); (focus rfl); (focus rfl); (focus rfl); (focus rfl)) | with_reducible refine W_seq ?_ | with_reducible refine W_reg ?_ | with_reducible refine W_regD ?_ | with_reducible refine W_regE ?_ | with_reducible refine W_regP ?_ | with_reducible refine W_block ?_ | with_reducible refine W_skip ?_ | with_reducible refine W_ret ?_ | with_reducible refine W_exit ?_ | with_reducible refine O_nil ?_ | with_reducible refine K_seq ?_ | with_reducible refine K_seqE ?_ | with_reducible refine K_seqR ?_ | with_reducible refine K_block ?_ | with_reducible refine K_blockR ?_ | with_reducible refine K_blockE ?_ | with_reducible refine K_forE ?_ | with_reducible refine K_forR ?_ | with_reducible refine K_rndE ?_ | with_reducible refine K_rndR ?_ | with_reducible refine O_o2r ?_ | ((with_reducible apply K_blockN); decide) | ((with_reducible apply O_r); (focus (simp only [push_cast, seval]; rfl)); (focus (first | exact trivial | omega))) | ((with_reducible apply O_w); (focus (simp only [push_cast, seval]; rfl)); (focus (first | exact trivial | omega))) | ((with_reducible apply O_x); (focus (simp only [push_cast, seval]; rfl)); (focus (first | exact trivial | omega)); (focus exact Rer_nil)))
  · unfold sc_wire_PutAt_B1 sc_wire_PutAt_L1
    refine W_block ?_
    refine W_rounds (α := List Tapi_Element) (fun l => st [(2, .d (.str t)), (3, .ref 3 0), (4, .d (.ptr [.int .i64 e, .int .i64 r, .int .i64 p])), (6, .ref 6 0)] [(3, .box [.d (.str tag), .vec 10]), (6, .box [.d (.str []), .nils]), (10, .vec 77 1 (vrowO msE rTapi_Element l))])
      (fun l => (e - l.length).toNat) (fun l => padTo l e E0 = padTo els e E0 ∧ (els = l ∨ (l.length : Int) ≤ e)) els ?h0 ⟨rfl, .inl rfl⟩ ?round
    case h0 => exact imp_st (by simp only [keepS, push_cast, seval, and_self]) (by simp only [keepH, push_cast, seval, and_self])
    case round =>
      rintro l ⟨hl1, hl2⟩
      repeat' (first | with_reducible refine W_seq ?_ | with_reducible refine W_reg ?_ | with_reducible refine W_regD ?_ | with_reducible refine W_regE ?_ | with_reducible refine W_regP ?_ | with_reducible refine W_block ?_ | with_reducible refine W_skip ?_ | with_reducible refine W_ret ?_ | with_reducible refine W_exit ?_ | with_reducible refine O_nil ?_ | with_reducible refine K_seq ?_ | with_reducible refine K_seqE ?_ | with_reducible refine K_seqR ?_ | with_reducible refine K_block ?_ | with_reducible refine K_blockR ?_ | with_reducible refine K_blockE ?_ | with_reducible refine K_forE ?_ | with_reducible refine K_forR ?_ | with_reducible refine K_rndE ?_ | with_reducible refine K_rndR ?_ | with_reducible refine O_o2r ?_ | ((with_reducible apply K_blockN); decide) | ((with_reducible apply O_r); (focus (simp only [push_cast, seval]; rfl)); (focus (first | exact trivial | omega))) | ((with_reducible apply O_w); (focus (simp only [push_cast, seval]; rfl)); (focus (first | exact trivial | omega))) | ((with_reducible apply O_x); (focus (simp only [push_cast, seval]; rfl)); (focus (first | exact trivial | omega)); (focus exact Rer_nil)))
      refine W_condB (b := decide ((l.length : Int) < e)) (by (simp only [push_cast, seval]; (try rfl); done)) (fun hb => ?_) (fun hb => ?_)
      · have hb' : (l.length : Int) < e := by simpa using hb
        repeat' (first | ((with_reducible apply O_slM); (focus (simp only [push_cast, seval]; rfl)); (focus (simp only [push_cast, seval]; rfl))) | ((with_reducible apply O_appD); (focus (simp only [push_cast, seval]; rfl)); (focus (simp only [push_cast, seval]; rfl)); (focus (simp only [push_cast, seval]; rfl)); (focus (simp)); (focus (simp only [vrowO_length, List.length_cons, List.length_nil]; omega))) | with_reducible refine W_seq ?_ | with_reducible refine W_reg ?_ | with_reducible refine W_regD ?_ | with_reducible refine W_regE ?_ | with_reducible refine W_regP ?_ | with_reducible refine W_block ?_ | with_reducible refine W_skip ?_ | with_reducible refine W_ret ?_ | with_reducible refine W_exit ?_ | with_reducible refine O_nil ?_ | with_reducible refine K_seq ?_ | with_reducible refine K_seqE ?_ | with_reducible refine K_seqR ?_ | with_reducible refine K_block ?_ | with_reducible refine K_blockR ?_ | with_reducible refine K_blockE ?_ | with_reducible refine K_forE ?_ | with_reducible refine K_forR ?_ | with_reducible refine K_rndE ?_ | with_reducible refine K_rndR ?_ | with_reducible refine O_o2r ?_ | ((with_reducible apply K_blockN); decide) | ((with_reducible apply O_r); (focus (simp only [push_cast, seval]; rfl)); (focus (first | exact trivial | omega))) | ((with_reducible apply O_w); (focus (simp only [push_cast, seval]; rfl)); (focus (first | exact trivial | omega))) | ((with_reducible apply O_x); (focus (simp only [push_cast, seval]; rfl)); (focus (first | exact trivial | omega)); (focus exact Rer_nil)))
        · apply K_rnd (l ++ [E0])
          (focus (simp only [List.length_append, List.length_cons, List.length_nil]; omega))
          rotate_left
          (focus (refine ⟨(padTo_more hb').trans hl1, .inr ?_⟩; simp only [List.length_append, List.length_cons, List.length_nil]; omega))
          refine Imp.trans (imp_closeA1 (id := 20) (cid := 19) (off := 0) (ms' := [.sh]) (row' := rowS) (y := [[]]) (by (simp only [push_cast, seval]; (try rfl); done)) (by (simp only [push_cast, seval]; (try rfl); done)) rfl r_shS rfl (fun _ => rfl) (by decide) rfl) ?_
          refine Imp.trans (imp_closeA (id := 10) (cid := 20) (off := 0) (ms' := msR) (row' := rowL rowS) (y := [[[]]]) (rows := vrowO msE rTapi_Element l) (by (simp only [push_cast, seval]; (try rfl); done)) rfl (by (simp only [push_cast, seval]; (try rfl); done)) (r_oneO c_ownL) rfl (fun _ => rfl) (by decide)) ?_
          exact imp_st (by simp only [keepS, push_cast, seval, and_self]) (by simp only [keepH, push_cast, seval, vrowO_append, and_true, true_and]; rfl)
      · have hb' : e ≤ (l.length : Int) := by simpa using hb
        have hl3 : l = padTo els e E0 := by rw [← hl1, padTo_done hb']
        obtain ⟨x0, hx0⟩ : ∃ x0, l[(e - 1).toNat]? = some x0 := ⟨l[(e - 1).toNat]'(by omega), List.getElem?_eq_getElem (by omega)⟩
        have hi0 : (e - 1).toNat < l.length := by omega
        have hpl := pre_len (ms := msE) (row := rTapi_Element) hi0
        have w1 : IntKind.i64.wrap (e - 1) = (((e - 1).toNat : Nat) : Int) := by rw [wrap64 _ (by omega) (by omega)]; omega
        have w2 : IntKind.i64.wrap (r - 1) = (((r - 1).toNat : Nat) : Int) := by rw [wrap64 _ (by omega) (by omega)]; omega
        have w3 : IntKind.i64.wrap (p - 1) = (((p - 1).toNat : Nat) : Int) := by rw [wrap64 _ (by omega) (by omega)]; omega
        rw [focus_nat hx0, ownR_E]
        repeat' (first | ((with_reducible apply O_idxK); (focus (simp only [push_cast, seval]; rfl)); (focus (simp only [push_cast, seval]; rfl)); (focus (simp only [push_cast, seval]; rfl)); (focus exact hpl); (focus exact w1)) | with_reducible refine W_seq ?_ | with_reducible refine W_reg ?_ | with_reducible refine W_regD ?_ | with_reducible refine W_regE ?_ | with_reducible refine W_regP ?_ | with_reducible refine W_block ?_ | with_reducible refine W_skip ?_ | with_reducible refine W_ret ?_ | with_reducible refine W_exit ?_ | with_reducible refine O_nil ?_ | with_reducible refine K_seq ?_ | with_reducible refine K_seqE ?_ | with_reducible refine K_seqR ?_ | with_reducible refine K_block ?_ | with_reducible refine K_blockR ?_ | with_reducible refine K_blockE ?_ | with_reducible refine K_forE ?_ | with_reducible refine K_forR ?_ | with_reducible refine K_rndE ?_ | with_reducible refine K_rndR ?_ | with_reducible refine O_o2r ?_ | ((with_reducible apply K_blockN); decide) | ((with_reducible apply O_r); (focus (simp only [push_cast, seval]; rfl)); (focus (first | exact trivial | omega))) | ((with_reducible apply O_w); (focus (simp only [push_cast, seval]; rfl)); (focus (first | exact trivial | omega))) | ((with_reducible apply O_x); (focus (simp only [push_cast, seval]; rfl)); (focus (first | exact trivial | omega)); (focus exact Rer_nil)))
        unfold sc_wire_PutAt_B2 sc_wire_PutAt_L2
        refine W_block ?_
        refine W_rounds (α := List (List (List UInt8))) (fun l2 => st [(2, .d (.str t)), (3, .ref 3 0), (4, .d (.ptr [.int .i64 e, .int .i64 r, .int .i64 p])), (6, .ref 6 0), (7, .vref 10 1 (e - 1).toNat 0)] [(3, .box [.d (.str tag), .vec 10]), (6, .box [.d (.str []), .nils]),
          (10, .vec 77 1 (zrow (vrowO msE rTapi_Element (l.take (e - 1).toNat)) [.vec 2000] (vrowO msE rTapi_Element (l.drop ((e - 1).toNat + 1))))), (2000, .vec 67 1 (vrowO msR (rowL rowS) l2))])
          (fun l2 => (r - l2.length).toNat) (fun l2 => padTo l2 r [[]] = padTo x0.fRepeats r [[]] ∧ (x0.fRepeats = l2 ∨ (l2.length : Int) ≤ r)) x0.fRepeats ?g0 ⟨rfl, .inl rfl⟩ ?ground
        case g0 =>
          refine Imp.trans (imp_openZ (id := 10) (cid := 2000) (off := 0) (by decide) (by (simp only [push_cast, seval]; rfl)) hpl.symm (by (simp only [push_cast, seval]; rfl))) ?_
          exact imp_st (by simp only [keepS, push_cast, seval, and_self]) (by simp only [keepH, push_cast, seval, and_true, true_and]; rfl)
        case ground =>
          rintro l2 ⟨hm1, hm2⟩
          repeat' (first | ((with_reducible apply O_ldK); (focus (simp only [push_cast, seval]; rfl)); (focus (simp only [push_cast, seval]; rfl)); (focus exact hpl); (focus (simp only [push_cast, seval]; rfl)); (focus rfl)) | with_reducible refine W_seq ?_ | with_reducible refine W_reg ?_ | with_reducible refine W_regD ?_ | with_reducible refine W_regE ?_ | with_reducible refine W_regP ?_ | with_reducible refine W_block ?_ | with_reducible refine W_skip ?_ | with_reducible refine W_ret ?_ | with_reducible refine W_exit ?_ | with_reducible refine O_nil ?_ | with_reducible refine K_seq ?_ | with_reducible refine K_seqE ?_ | with_reducible refine K_seqR ?_ | with_reducible refine K_block ?_ | with_reducible refine K_blockR ?_ | with_reducible refine K_blockE ?_ | with_reducible refine K_forE ?_ | with_reducible refine K_forR ?_ | with_reducible refine K_rndE ?_ | with_reducible refine K_rndR ?_ | with_reducible refine O_o2r ?_ | ((with_reducible apply K_blockN); decide) | ((with_reducible apply O_r); (focus (simp only [push_cast, seval]; rfl)); (focus (first | exact trivial | omega))) | ((with_reducible apply O_w); (focus (simp only [push_cast, seval]; rfl)); (focus (first | exact trivial | omega))) | ((with_reducible apply O_x); (focus (simp only [push_cast, seval]; rfl)); (focus (first | exact trivial | omega)); (focus exact Rer_nil)))
          refine W_condB (b := decide ((l2.length : Int) < r)) (by (simp only [push_cast, seval]; (try rfl); done)) (fun hb2 => ?_) (fun hb2 => ?_)
          · have hb2' : (l2.length : Int) < r := by simpa using hb2
            repeat' (first | ((with_reducible apply O_slM); (focus (simp only [push_cast, seval]; rfl)); (focus (simp only [push_cast, seval]; rfl))) | ((with_reducible apply O_ldK); (focus (simp only [push_cast, seval]; rfl)); (focus (simp only [push_cast, seval]; rfl)); (focus exact hpl); (focus (simp only [push_cast, seval]; rfl)); (focus rfl)) | ((with_reducible apply O_appD); (focus (simp only [push_cast, seval]; rfl)); (focus (simp only [push_cast, seval]; rfl)); (focus (simp only [push_cast, seval]; rfl)); (focus (simp)); (focus (simp only [vrowO_length, List.length_cons, List.length_nil]; omega))) | ((with_reducible apply O_stK); (focus (simp only [push_cast, seval]; rfl)); (focus (simp only [push_cast, seval]; rfl)); (focus (simp only [push_cast, seval]; rfl)); (focus exact hpl); (focus simp); (focus (simp only [push_cast, seval]; rfl))) | with_reducible refine W_seq ?_ | with_reducible refine W_reg ?_ | with_reducible refine W_regD ?_ | with_reducible refine W_regE ?_ | with_reducible refine W_regP ?_ | with_reducible refine W_block ?_ | with_reducible refine W_skip ?_ | with_reducible refine W_ret ?_ | with_reducible refine W_exit ?_ | with_reducible refine O_nil ?_ | with_reducible refine K_seq ?_ | with_reducible refine K_seqE ?_ | with_reducible refine K_seqR ?_ | with_reducible refine K_block ?_ | with_reducible refine K_blockR ?_ | with_reducible refine K_blockE ?_ | with_reducible refine K_forE ?_ | with_reducible refine K_forR ?_ | with_reducible refine K_rndE ?_ | with_reducible refine K_rndR ?_ | with_reducible refine O_o2r ?_ | ((with_reducible apply K_blockN); decide) | ((with_reducible apply O_r); (focus (simp only [push_cast, seval]; rfl)); (focus (first | exact trivial | omega))) | ((with_reducible apply O_w); (focus (simp only [push_cast, seval]; rfl)); (focus (first | exact trivial | omega))) | ((with_reducible apply O_x); (focus (simp only [push_cast, seval]; rfl)); (focus (first | exact trivial | omega)); (focus exact Rer_nil)))
            apply K_rnd (l2 ++ [[[]]])
            (focus (simp only [List.length_append, List.length_cons, List.length_nil]; omega))
            rotate_left
            (focus (refine ⟨(padTo_more hb2').trans hm1, .inr ?_⟩; simp only [List.length_append, List.length_cons, List.length_nil]; omega))
            refine Imp.trans (imp_closeA (id := 2000) (cid := 44) (off := 0) (ms' := [.sh]) (row' := rowS) (y := [[]]) (rows := vrowO msR (rowL rowS) l2) (by (simp only [push_cast, seval]; (try rfl); done)) rfl (by (simp only [push_cast, seval]; (try rfl); done)) r_shS rfl (fun _ => rfl) (by decide)) ?_
            exact imp_st (by simp only [keepS, push_cast, seval, and_self]) (by simp only [keepH, push_cast, seval, vrowO_append, and_true, true_and]; rfl)
          · have hb2' : r ≤ (l2.length : Int) := by simpa using hb2
            have hm3 : l2 = padTo x0.fRepeats r [[]] := by rw [← hm1, padTo_done hb2']
            obtain ⟨ps, hps⟩ : ∃ ps, l2[(r - 1).toNat]? = some ps := ⟨l2[(r - 1).toNat]'(by omega), List.getElem?_eq_getElem (by omega)⟩
            have hj0 : (r - 1).toNat < l2.length := by omega
            have hpl2 := pre_len (ms := msR) (row := rowL rowS) hj0
            rw [focus_nat hps, ownR_R]
            repeat' (first | ((with_reducible apply O_idxK); (focus (simp only [push_cast, seval]; rfl)); (focus (simp only [push_cast, seval]; rfl)); (focus (simp only [push_cast, seval]; rfl)); (focus exact hpl2); (focus exact w2)) | ((with_reducible apply O_ldK); (focus (simp only [push_cast, seval]; rfl)); (focus (simp only [push_cast, seval]; rfl)); (focus exact hpl); (focus (simp only [push_cast, seval]; rfl)); (focus rfl)) | with_reducible refine W_seq ?_ | with_reducible refine W_reg ?_ | with_reducible refine W_regD ?_ | with_reducible refine W_regE ?_ | with_reducible refine W_regP ?_ | with_reducible refine W_block ?_ | with_reducible refine W_skip ?_ | with_reducible refine W_ret ?_ | with_reducible refine W_exit ?_ | with_reducible refine O_nil ?_ | with_reducible refine K_seq ?_ | with_reducible refine K_seqE ?_ | with_reducible refine K_seqR ?_ | with_reducible refine K_block ?_ | with_reducible refine K_blockR ?_ | with_reducible refine K_blockE ?_ | with_reducible refine K_forE ?_ | with_reducible refine K_forR ?_ | with_reducible refine K_rndE ?_ | with_reducible refine K_rndR ?_ | with_reducible refine O_o2r ?_ | ((with_reducible apply K_blockN); decide) | ((with_reducible apply O_r); (focus (simp only [push_cast, seval]; rfl)); (focus (first | exact trivial | omega))) | ((with_reducible apply O_w); (focus (simp only [push_cast, seval]; rfl)); (focus (first | exact trivial | omega))) | ((with_reducible apply O_x); (focus (simp only [push_cast, seval]; rfl)); (focus (first | exact trivial | omega)); (focus exact Rer_nil)))
            unfold sc_wire_PutAt_B3 sc_wire_PutAt_L3
            refine W_block ?_
            refine W_rounds (α := List (List UInt8)) (fun l3 => st [(2, .d (.str t)), (3, .ref 3 0), (4, .d (.ptr [.int .i64 e, .int .i64 r, .int .i64 p])), (6, .ref 6 0), (8, .vref 2000 1 (r - 1).toNat 0)] [(3, .box [.d (.str tag), .vec 10]), (6, .box [.d (.str []), .nils]),
              (10, .vec 77 1 (zrow (vrowO msE rTapi_Element (l.take (e - 1).toNat)) [.vec 2000] (vrowO msE rTapi_Element (l.drop ((e - 1).toNat + 1))))), (2000, .vec 67 1 (zrow (vrowO msR (rowL rowS) (l2.take (r - 1).toNat)) [.vec 2001] (vrowO msR (rowL rowS) (l2.drop ((r - 1).toNat + 1))))), (2001, .vec 9 1 (vrowO [.sh] rowS l3))])
              (fun l3 => (p - l3.length).toNat) (fun l3 => padTo l3 p [] = padTo ps p [] ∧ (ps = l3 ∨ (l3.length : Int) ≤ p)) ps ?k0 ⟨rfl, .inl rfl⟩ ?kround
            case k0 =>
              refine Imp.trans (imp_openZ (id := 2000) (cid := 2001) (off := 0) (by decide) (by (simp only [push_cast, seval]; rfl)) hpl2.symm (by (simp only [push_cast, seval]; rfl))) ?_
              exact imp_st (by simp only [keepS, push_cast, seval, and_self]) (by simp only [keepH, push_cast, seval, and_true, true_and])
            case kround =>
              rintro l3 ⟨hn1, hn2⟩
              repeat' (first | ((with_reducible apply O_ldK); (focus (simp only [push_cast, seval]; rfl)); (focus (simp only [push_cast, seval]; rfl)); (focus exact hpl2); (focus (simp only [push_cast, seval]; rfl)); (focus rfl)) | with_reducible refine W_seq ?_ | with_reducible refine W_reg ?_ | with_reducible refine W_regD ?_ | with_reducible refine W_regE ?_ | with_reducible refine W_regP ?_ | with_reducible refine W_block ?_ | with_reducible refine W_skip ?_ | with_reducible refine W_ret ?_ | with_reducible refine W_exit ?_ | with_reducible refine O_nil ?_ | with_reducible refine K_seq ?_ | with_reducible refine K_seqE ?_ | with_reducible refine K_seqR ?_ | with_reducible refine K_block ?_ | with_reducible refine K_blockR ?_ | with_reducible refine K_blockE ?_ | with_reducible refine K_forE ?_ | with_reducible refine K_forR ?_ | with_reducible refine K_rndE ?_ | with_reducible refine K_rndR ?_ | with_reducible refine O_o2r ?_ | ((with_reducible apply K_blockN); decide) | ((with_reducible apply O_r); (focus (simp only [push_cast, seval]; rfl)); (focus (first | exact trivial | omega))) | ((with_reducible apply O_w); (focus (simp only [push_cast, seval]; rfl)); (focus (first | exact trivial | omega))) | ((with_reducible apply O_x); (focus (simp only [push_cast, seval]; rfl)); (focus (first | exact trivial | omega)); (focus exact Rer_nil)))
              refine W_condB (b := decide ((l3.length : Int) < p)) (by (simp only [push_cast, seval]; (try rfl); done)) (fun hb3 => ?_) (fun hb3 => ?_)
              · have hb3' : (l3.length : Int) < p := by simpa using hb3
                repeat' (first | ((with_reducible apply O_ldK); (focus (simp only [push_cast, seval]; rfl)); (focus (simp only [push_cast, seval]; rfl)); (focus exact hpl2); (focus (simp only [push_cast, seval]; rfl)); (focus rfl)) | ((with_reducible apply O_appD); (focus (simp only [push_cast, seval]; rfl)); (focus (simp only [push_cast, seval]; rfl)); (focus (simp only [push_cast, seval]; rfl)); (focus (simp)); (focus (simp only [vrowO_length, List.length_cons, List.length_nil]; omega))) | ((with_reducible apply O_stK); (focus (simp only [push_cast, seval]; rfl)); (focus (simp only [push_cast, seval]; rfl)); (focus (simp only [push_cast, seval]; rfl)); (focus exact hpl2); (focus simp); (focus (simp only [push_cast, seval]; rfl))) | with_reducible refine W_seq ?_ | with_reducible refine W_reg ?_ | with_reducible refine W_regD ?_ | with_reducible refine W_regE ?_ | with_reducible refine W_regP ?_ | with_reducible refine W_block ?_ | with_reducible refine W_skip ?_ | with_reducible refine W_ret ?_ | with_reducible refine W_exit ?_ | with_reducible refine O_nil ?_ | with_reducible refine K_seq ?_ | with_reducible refine K_seqE ?_ | with_reducible refine K_seqR ?_ | with_reducible refine K_block ?_ | with_reducible refine K_blockR ?_ | with_reducible refine K_blockE ?_ | with_reducible refine K_forE ?_ | with_reducible refine K_forR ?_ | with_reducible refine K_rndE ?_ | with_reducible refine K_rndR ?_ | with_reducible refine O_o2r ?_ | ((with_reducible apply K_blockN); decide) | ((with_reducible apply O_r); (focus (simp only [push_cast, seval]; rfl)); (focus (first | exact trivial | omega))) | ((with_reducible apply O_w); (focus (simp only [push_cast, seval]; rfl)); (focus (first | exact trivial | omega))) | ((with_reducible apply O_x); (focus (simp only [push_cast, seval]; rfl)); (focus (first | exact trivial | omega)); (focus exact Rer_nil)))
                apply K_rnd (l3 ++ [[]])
                (focus (simp only [List.length_append, List.length_cons, List.length_nil]; omega))
                rotate_left
                (focus (refine ⟨(padTo_more hb3').trans hn1, .inr ?_⟩; simp only [List.length_append, List.length_cons, List.length_nil]; omega))
                exact imp_st (by simp only [keepS, push_cast, seval, and_self]) (by simp only [keepH, push_cast, seval, vrowO_append, and_true, true_and]; rfl)
              · have hb3' : p ≤ (l3.length : Int) := by simpa using hb3
                have hn3 : l3 = padTo ps p [] := by rw [← hn1, padTo_done hb3']
                obtain ⟨s0, hs0⟩ : ∃ s0, l3[(p - 1).toNat]? = some s0 := ⟨l3[(p - 1).toNat]'(by omega), List.getElem?_eq_getElem (by omega)⟩
                have hk0 : (p - 1).toNat < l3.length := by omega
                have hpl3 := pre_len (ms := [.sh]) (row := rowS) hk0
                rw [focus_nat hs0]
                repeat' (first | ((with_reducible apply O_idxK); (focus (simp only [push_cast, seval]; rfl)); (focus (simp only [push_cast, seval]; rfl)); (focus (simp only [push_cast, seval]; rfl)); (focus exact hpl3); (focus exact w3)) | ((with_reducible apply O_ldK); (focus (simp only [push_cast, seval]; rfl)); (focus (simp only [push_cast, seval]; rfl)); (focus exact hpl2); (focus (simp only [push_cast, seval]; rfl)); (focus rfl)) | ((with_reducible apply O_stKx); (focus (simp only [push_cast, seval]; rfl)); (focus (simp only [push_cast, seval]; rfl)); (focus (simp only [push_cast, seval]; rfl)); (focus exact hpl3); (focus simp [ownR, rowS]); (focus rfl); (focus exact Rer_nil)) | with_reducible refine W_seq ?_ | with_reducible refine W_reg ?_ | with_reducible refine W_regD ?_ | with_reducible refine W_regE ?_ | with_reducible refine W_regP ?_ | with_reducible refine W_block ?_ | with_reducible refine W_skip ?_ | with_reducible refine W_ret ?_ | with_reducible refine W_exit ?_ | with_reducible refine O_nil ?_ | with_reducible refine K_seq ?_ | with_reducible refine K_seqE ?_ | with_reducible refine K_seqR ?_ | with_reducible refine K_block ?_ | with_reducible refine K_blockR ?_ | with_reducible refine K_blockE ?_ | with_reducible refine K_forE ?_ | with_reducible refine K_forR ?_ | with_reducible refine K_rndE ?_ | with_reducible refine K_rndR ?_ | with_reducible refine O_o2r ?_ | ((with_reducible apply K_blockN); decide) | ((with_reducible apply O_r); (focus (simp only [push_cast, seval]; rfl)); (focus (first | exact trivial | omega))) | ((with_reducible apply O_w); (focus (simp only [push_cast, seval]; rfl)); (focus (first | exact trivial | omega))) | ((with_reducible apply O_x); (focus (simp only [push_cast, seval]; rfl)); (focus (first | exact trivial | omega)); (focus exact Rer_nil)))
                have e7 : zrow (vrowO [.sh] rowS (l3.take (p - 1).toNat)) [.d (.str t)] (vrowO [.sh] rowS (l3.drop ((p - 1).toNat + 1))) = vrowO [.sh] rowS (l3.set (p - 1).toNat t) := zrow_un (ms := [.sh]) (row := rowS) t hk0
                have e8 : zrow (vrowO msR (rowL rowS) (l2.take (r - 1).toNat)) [.own (.sl 9 [.sh]) (.slice (List.map rowS (l3.set (p - 1).toNat t)))] (vrowO msR (rowL rowS) (l2.drop ((r - 1).toNat + 1))) = vrowO msR (rowL rowS) (l2.set (r - 1).toNat (l3.set (p - 1).toNat t)) := zrow_un (ms := msR) (row := rowL rowS) (l3.set (p - 1).toNat t) hj0
                have e9 : zrow (vrowO msE rTapi_Element (l.take (e - 1).toNat)) [.own (.sl 67 msR) (.slice (List.map (rowL rowS) (l2.set (r - 1).toNat (l3.set (p - 1).toNat t))))] (vrowO msE rTapi_Element (l.drop ((e - 1).toNat + 1))) = vrowO msE rTapi_Element (l.set (e - 1).toNat ⟨l2.set (r - 1).toNat (l3.set (p - 1).toNat t)⟩) := zrow_un (ms := msE) (row := rTapi_Element) ⟨l2.set (r - 1).toNat (l3.set (p - 1).toNat t)⟩ hi0
                have ef : putF ⟨tag, els⟩ ⟨e, r, p⟩ t = ⟨tag, l.set (e - 1).toNat ⟨l2.set (r - 1).toNat (l3.set (p - 1).toNat t)⟩⟩ := by
                  have q1 : l.getD (e - 1).toNat ⟨[]⟩ = x0 := by rw [List.getD_eq_getElem?_getD, hx0]; rfl
                  have q2 : l2.getD (r - 1).toNat [] = ps := by rw [List.getD_eq_getElem?_getD, hps]; rfl
                  unfold putF putReps putParts
                  dsimp only
                  rw [show padTo els e (⟨[[[]]]⟩ : Tapi_Element) = l from hl3.symm, q1, ← hm3, q2, ← hn3]
                rw [ef]
                refine K_endI (imp_closeZ (id := 2000) (cid := 2001) (off := 0) (ms' := [.sh]) (row' := rowS) (y := l3.set (p - 1).toNat t) (k := (r - 1).toNat) (by (simp only [push_cast, seval]; rfl)) (by (simp only [push_cast, seval]; (try rfl); done)) hpl2.symm (by (simp only [push_cast, seval]; (try rfl); done)) (by rw [e7]; exact r_rflO) rfl (fun _ => rfl) (by decide) (by (simp only [push_cast, seval]; rfl))) ?_
                refine K_endI (imp_closeZ (id := 10) (cid := 2000) (off := 0) (ms' := msR) (row' := rowL rowS) (y := l2.set (r - 1).toNat (l3.set (p - 1).toNat t)) (k := (e - 1).toNat) (by (simp only [push_cast, seval]; rfl)) (by (simp only [push_cast, seval]; (try rfl); done)) hpl.symm (by (simp only [push_cast, seval]; (try rfl); done)) (by rw [e8]; exact r_rflO) rfl (fun _ => rfl) (by decide) (by (simp only [push_cast, seval]; rfl))) ?_
                refine K_endI (imp_freeze (id := 10) (by simp only [push_cast, seval]; rw [e9]) (frzR_vrowO (by decide) (fun _ => rfl))) ?_
                apply K_end
                simp only [resOf, resL, RV.get, push_cast, seval]
end Go.Proofs.YthailknfgcegoaaDoor

/-
  wire.short: what it does with a segment.
-/
namespace Go.Proofs.YthailknfgcegoaaDoor
set_option linter.unusedSimpArgs false
set_option linter.unusedVariables false
open Go.RowKit

set_option maxRecDepth 100000
set_option maxHeartbeats 4000000

def msE2 : List Mask := [.sl 67 [.sh]]
def msS2 : List Mask := [.sh, .sl 77 msE2]
theorem ownR_E2 (y : Tapi_Element) : ownR msE2 (rTapi_Element y) = [.own (.sl 67 [.sh]) (.slice (List.map (rowL rowS) y.fRepeats))] := rfl
theorem m_isEmptyRepeat (l : List (List UInt8)) : m_wire_isEmptyRepeat l = some (isE l) := by
  unfold m_wire_isEmptyRepeat sims_G2_0_0; dsimp only
  match l with
  | [] => rfl
  | [x] => simp [andO, getI, isE]
  | x :: y :: l =>
    have h1 : (((x :: y :: l : List (List UInt8)).length : Int) = 1) = False := by simp; omega
    simp only [h1, decide_false, andO, cond_false, Option.bind_some, isE]
    simp
theorem pure_isE (l : List (List UInt8)) : PureSpec Tryd.prog 78 [.slice (List.map rowS l)] (.bool (isE l)) := spec_wire_isEmptyRepeat l _ (m_isEmptyRepeat l)

theorem pure_wire_short (tag : List UInt8) (els : List Tapi_Element) (hx : cloneOk ⟨tag, els⟩) : PureSpec Tryd.prog 38 [.agg (rTapi_Segment ⟨tag, els⟩)] (.agg (rTapi_Segment (shortF ⟨tag, els⟩))) := by
  have hx' := hx
  obtain ⟨hx1, hx2⟩ := hx'
  dsimp only at hx1 hx2
  refine pure_walk Tryd.func38 fit_wire_short ?_
  unfold sc_wire_short
  repeat' (first | ((with_reducible apply O_pAD (x := .agg [.d (.str tag), .vec 10]) (ch := .vec _ 1 (vrowO msE2 rTapi_Element els)) (mk := .vec) (m := .sl _ msE2) (v := .slice (List.map rTapi_Element els))); (focus (simp only [push_cast, seval]; rfl)); (focus exact (own_wire_Clone ⟨tag, els⟩ hx).weak (ms' := msS2) rfl (by decide)); (focus rfl); (focus rfl); (focus rfl); (focus rfl); (focus rfl); (focus rfl)) | with_reducible refine W_seq ?_ | with_reducible refine W_reg ?_ | with_reducible refine W_regD ?_ | with_reducible refine W_regE ?_ | with_reducible refine W_regP ?_ | with_reducible refine W_block ?_ | with_reducible refine W_skip ?_ | with_reducible refine W_ret ?_ | with_reducible refine W_exit ?_ | with_reducible refine O_nil ?_ | with_reducible refine K_seq ?_ | with_reducible refine K_seqE ?_ | with_reducible refine K_seqR ?_ | with_reducible refine K_block ?_ | with_reducible refine K_blockR ?_ | with_reducible refine K_blockE ?_ | with_reducible refine K_forE ?_ | with_reducible refine K_forR ?_ | with_reducible refine K_rndE ?_ | with_reducible refine K_rndR ?_ | with_reducible refine O_o2r ?_ | ((with_reducible apply K_blockN); decide) | ((with_reducible apply O_r); (focus (simp only [push_cast, seval]; rfl)); (focus (first | exact trivial | omega))) | ((with_reducible apply O_w); (focus (simp only [push_cast, seval]; rfl)); (focus (first | exact trivial | omega))) | ((with_reducible apply O_x); (focus (simp only [push_cast, seval]; rfl)); (focus (first | exact trivial | omega)); (focus exact Rer_nil)))
  · unfold sc_wire_short_B4 sc_wire_short_L4
    refine W_block ?_
    refine W_for (α := Unit) (b0 := 0) (c := 15) (k := 14) (n := 13) (t := 91) (fun i _ => st [(1, .ref 1 0), (2, .ref 2 0), (12, .vec 10), (13, .d (.int .i64 (els.length : Int))), (14, .d (.int .i64 (i : Int)))]
      [(1, .box [.d (.str tag), .vec 10]), (2, .box [.d (.str []), .nils]), (10, .vec 77 1 (vrowO msE2 rTapi_Element (doneTo shE els i)))]) (fun _ _ => True) els.length () (by omega) (fun _ _ => rfl) (fun _ _ => rfl) ?h0 trivial ?body ?done
    case h0 => exact imp_st (by simp only [keepS, push_cast, seval, and_self]) (by simp only [keepH, push_cast, seval, doneTo_zero, and_self])
    case body =>
      intro i _ hi _
      obtain ⟨y, hy⟩ : ∃ y, els[i]? = some y := ⟨els[i], List.getElem?_eq_getElem hi⟩
      obtain ⟨hy1, hy2⟩ := hx2 y (List.mem_of_getElem? hy)
      have hg := doneTo_get (f := shE) hy
      have hlt : i < (doneTo shE els i).length := by rw [doneTo_length]; exact hi
      have hpl := pre_len (ms := msE2) (row := rTapi_Element) hlt
      dsimp only
      rw [focus_nat hg, ownR_E2]
      repeat' (first | ((with_reducible apply O_idxK); (focus (simp only [push_cast, seval]; rfl)); (focus (simp only [push_cast, seval]; rfl)); (focus (simp only [push_cast, seval]; rfl)); (focus exact hpl); (focus rfl)) | ((with_reducible apply O_ldKo); (focus (simp only [push_cast, seval]; rfl)); (focus (simp only [push_cast, seval]; rfl)); (focus exact hpl); (focus (simp only [push_cast, seval]; rfl)); (focus decide); (focus rfl); (focus (simp only [push_cast, seval]; rfl))) | with_reducible refine W_seq ?_ | with_reducible refine W_reg ?_ | with_reducible refine W_regD ?_ | with_reducible refine W_regE ?_ | with_reducible refine W_regP ?_ | with_reducible refine W_block ?_ | with_reducible refine W_skip ?_ | with_reducible refine W_ret ?_ | with_reducible refine W_exit ?_ | with_reducible refine O_nil ?_ | with_reducible refine K_seq ?_ | with_reducible refine K_seqE ?_ | with_reducible refine K_seqR ?_ | with_reducible refine K_block ?_ | with_reducible refine K_blockR ?_ | with_reducible refine K_blockE ?_ | with_reducible refine K_forE ?_ | with_reducible refine K_forR ?_ | with_reducible refine K_rndE ?_ | with_reducible refine K_rndR ?_ | with_reducible refine O_o2r ?_ | ((with_reducible apply K_blockN); decide) | ((with_reducible apply O_r); (focus (simp only [push_cast, seval]; rfl)); (focus (first | exact trivial | omega))) | ((with_reducible apply O_w); (focus (simp only [push_cast, seval]; rfl)); (focus (first | exact trivial | omega))) | ((with_reducible apply O_x); (focus (simp only [push_cast, seval]; rfl)); (focus (first | exact trivial | omega)); (focus exact Rer_nil)))
      unfold sc_wire_short_B2 sc_wire_short_L2
      refine W_block ?_
      refine W_for (α := Unit) (b0 := 2) (c := 27) (k := 26) (n := 25) (t := 55) (fun k _ => st [(1, .ref 1 0), (2, .ref 2 0), (3, .d (.int .i64 (i : Int))), (4, .vref 10 1 i 0), (12, .vec 10), (13, .d (.int .i64 (els.length : Int))), (14, .d (.int .i64 (i : Int))), (24, .vec 24), (25, .d (.int .i64 (y.fRepeats.length : Int))), (26, .d (.int .i64 (k : Int)))]
        [(1, .box [.d (.str tag), .vec 10]), (2, .box [.d (.str []), .nils]), (10, .vec 77 1 (zrow (vrowO msE2 rTapi_Element ((doneTo shE els i).take i)) [.vec 24] (vrowO msE2 rTapi_Element ((doneTo shE els i).drop (i + 1))))), (24, .vec 67 1 (vrowO [.sh] (rowL rowS) (doneTo trimP y.fRepeats k)))]) (fun _ _ => True) y.fRepeats.length () (by omega) (fun _ _ => rfl) (fun _ _ => rfl) ?g0 trivial ?gbody ?gdone
      case g0 => exact imp_st (by simp only [keepS, push_cast, seval, and_self]) (by simp only [keepH, push_cast, seval, doneTo_zero, and_self])
      case gbody =>
        intro k _ hk _
        obtain ⟨z, hz⟩ : ∃ z, y.fRepeats[k]? = some z := ⟨y.fRepeats[k], List.getElem?_eq_getElem hk⟩
        have hz1 := hy2 z (List.mem_of_getElem? hz)
        have hgz := doneTo_get (f := trimP) hz
        have hlt2 : k < (doneTo trimP y.fRepeats k).length := by rw [doneTo_length]; exact hk
        have hpl2 := pre_len (ms := [.sh]) (row := rowL rowS) hlt2
        dsimp only
        rw [focus_nat hgz, show ownR [.sh] (rowL rowS z) = [.d (.slice (List.map rowS z))] from rfl]
        repeat' (first | ((with_reducible apply O_idxK); (focus (simp only [push_cast, seval]; rfl)); (focus (simp only [push_cast, seval]; rfl)); (focus (simp only [push_cast, seval]; rfl)); (focus exact hpl2); (focus rfl)) | ((with_reducible apply O_ldK); (focus (simp only [push_cast, seval]; rfl)); (focus (simp only [push_cast, seval]; rfl)); (focus exact hpl2); (focus (simp only [push_cast, seval]; rfl)); (focus rfl)) | with_reducible refine W_seq ?_ | with_reducible refine W_reg ?_ | with_reducible refine W_regD ?_ | with_reducible refine W_regE ?_ | with_reducible refine W_regP ?_ | with_reducible refine W_block ?_ | with_reducible refine W_skip ?_ | with_reducible refine W_ret ?_ | with_reducible refine W_exit ?_ | with_reducible refine O_nil ?_ | with_reducible refine K_seq ?_ | with_reducible refine K_seqE ?_ | with_reducible refine K_seqR ?_ | with_reducible refine K_block ?_ | with_reducible refine K_blockR ?_ | with_reducible refine K_blockE ?_ | with_reducible refine K_forE ?_ | with_reducible refine K_forR ?_ | with_reducible refine K_rndE ?_ | with_reducible refine K_rndR ?_ | with_reducible refine O_o2r ?_ | ((with_reducible apply K_blockN); decide) | ((with_reducible apply O_r); (focus (simp only [push_cast, seval]; rfl)); (focus (first | exact trivial | omega))) | ((with_reducible apply O_w); (focus (simp only [push_cast, seval]; rfl)); (focus (first | exact trivial | omega))) | ((with_reducible apply O_x); (focus (simp only [push_cast, seval]; rfl)); (focus (first | exact trivial | omega)); (focus exact Rer_nil)))
        unfold sc_wire_short_B1 sc_wire_short_L1
        refine W_block ?_
        refine W_rounds (α := List (List UInt8)) (fun ps => st [(1, .ref 1 0), (2, .ref 2 0), (3, .d (.int .i64 (i : Int))), (4, .vref 10 1 i 0), (5, .d (.int .i64 (k : Int))), (6, .d (.slice (List.map rowS ps))), (12, .vec 10), (13, .d (.int .i64 (els.length : Int))), (14, .d (.int .i64 (i : Int))), (24, .vec 24), (25, .d (.int .i64 (y.fRepeats.length : Int))), (26, .d (.int .i64 (k : Int)))]
          [(1, .box [.d (.str tag), .vec 10]), (2, .box [.d (.str []), .nils]), (10, .vec 77 1 (zrow (vrowO msE2 rTapi_Element ((doneTo shE els i).take i)) [.vec 24] (vrowO msE2 rTapi_Element ((doneTo shE els i).drop (i + 1))))), (24, .vec 67 1 (zrow (vrowO [.sh] (rowL rowS) ((doneTo trimP y.fRepeats k).take k)) [.d (.slice (List.map rowS z))] (vrowO [.sh] (rowL rowS) ((doneTo trimP y.fRepeats k).drop (k + 1)))))])
          (fun ps => ps.length) (fun ps => trimP ps = trimP z ∧ ps.length ≤ z.length) z ?k0 ⟨rfl, Nat.le_refl _⟩ ?kround
        case k0 => exact imp_st (by simp only [keepS, push_cast, seval, and_self]) (by simp only [keepH, push_cast, seval, and_self])
        case kround =>
          rintro ps ⟨hp1, hp2⟩
          obtain ⟨v, hv⟩ : ∃ v, v = (match ps[ps.length - 1]? with | some s => decide (s = []) | none => false) := ⟨_, rfl⟩
          have hw : 1 < ps.length → IntKind.i64.wrap ((ps.length : Int) - 1) = ((ps.length - 1 : Nat) : Int) := fun h => by rw [wrap64 _ (by omega) (by omega)]; omega
          have hlast : 1 < ps.length → ∃ s, ps[ps.length - 1]? = some s ∧ v = decide (s = []) := fun h => by
            refine ⟨ps[ps.length - 1], List.getElem?_eq_getElem (by omega), ?_⟩
            rw [hv, List.getElem?_eq_getElem (by omega : ps.length - 1 < ps.length)]
          repeat' (first | ((with_reducible apply O_andD (v := v)); (focus (simp only [push_cast, seval]; rfl)); (focus rfl); rotate_left; intro g) | with_reducible refine W_seq ?_ | with_reducible refine W_reg ?_ | with_reducible refine W_regD ?_ | with_reducible refine W_regE ?_ | with_reducible refine W_regP ?_ | with_reducible refine W_block ?_ | with_reducible refine W_skip ?_ | with_reducible refine W_ret ?_ | with_reducible refine W_exit ?_ | with_reducible refine O_nil ?_ | with_reducible refine K_seq ?_ | with_reducible refine K_seqE ?_ | with_reducible refine K_seqR ?_ | with_reducible refine K_block ?_ | with_reducible refine K_blockR ?_ | with_reducible refine K_blockE ?_ | with_reducible refine K_forE ?_ | with_reducible refine K_forR ?_ | with_reducible refine K_rndE ?_ | with_reducible refine K_rndR ?_ | with_reducible refine O_o2r ?_ | ((with_reducible apply K_blockN); decide) | ((with_reducible apply O_r); (focus (simp only [push_cast, seval]; rfl)); (focus (first | exact trivial | omega))) | ((with_reducible apply O_w); (focus (simp only [push_cast, seval]; rfl)); (focus (first | exact trivial | omega))) | ((with_reducible apply O_x); (focus (simp only [push_cast, seval]; rfl)); (focus (first | exact trivial | omega)); (focus exact Rer_nil)))
          rotate_left
          · intro hb
            have hb' : 1 < ps.length := by have := of_decide_eq_true hb; omega
            obtain ⟨s0, hs0, rfl⟩ := hlast hb'
            have hgi : getI ps (IntKind.i64.wrap ((ps.length : Int) - 1)) = some s0 := by rw [hw hb']; exact getI_ofN hs0
            repeat' (first | ((with_reducible apply O_idxD); (focus (simp only [push_cast, seval]; rfl)); (focus (simp only [push_cast, seval]; rfl)); (focus (intro _; rfl)); (focus exact hgi)) | with_reducible refine W_seq ?_ | with_reducible refine W_reg ?_ | with_reducible refine W_regD ?_ | with_reducible refine W_regE ?_ | with_reducible refine W_regP ?_ | with_reducible refine W_block ?_ | with_reducible refine W_skip ?_ | with_reducible refine W_ret ?_ | with_reducible refine W_exit ?_ | with_reducible refine O_nil ?_ | with_reducible refine K_seq ?_ | with_reducible refine K_seqE ?_ | with_reducible refine K_seqR ?_ | with_reducible refine K_block ?_ | with_reducible refine K_blockR ?_ | with_reducible refine K_blockE ?_ | with_reducible refine K_forE ?_ | with_reducible refine K_forR ?_ | with_reducible refine K_rndE ?_ | with_reducible refine K_rndR ?_ | with_reducible refine O_o2r ?_ | ((with_reducible apply K_blockN); decide) | ((with_reducible apply O_r); (focus (simp only [push_cast, seval]; rfl)); (focus (first | exact trivial | omega))) | ((with_reducible apply O_w); (focus (simp only [push_cast, seval]; rfl)); (focus (first | exact trivial | omega))) | ((with_reducible apply O_x); (focus (simp only [push_cast, seval]; rfl)); (focus (first | exact trivial | omega)); (focus exact Rer_nil)))
            unfold boolK
            simp only [push_cast, seval]
          refine W_condB (b := decide ((1 : Int) < ps.length) && v) (by (simp only [push_cast, seval]; (try rfl); done)) (fun hb => ?_) (fun hb => ?_)
          · simp only [Bool.and_eq_true, decide_eq_true_eq] at hb
            have hb' : 1 < ps.length := by omega
            obtain ⟨s0, hs0, hv0⟩ := hlast hb'
            have hs1 : s0 = [] := by have := hb.2; rw [hv0] at this; exact of_decide_eq_true this
            repeat' (first | ((with_reducible apply O_slcD (ps.length - 1)); (focus (simp only [push_cast, seval]; rfl)); (focus (simp only [push_cast, seval]; rfl)); (focus (intro _; rfl)); (focus exact hw hb'); (focus omega)) | with_reducible refine W_seq ?_ | with_reducible refine W_reg ?_ | with_reducible refine W_regD ?_ | with_reducible refine W_regE ?_ | with_reducible refine W_regP ?_ | with_reducible refine W_block ?_ | with_reducible refine W_skip ?_ | with_reducible refine W_ret ?_ | with_reducible refine W_exit ?_ | with_reducible refine O_nil ?_ | with_reducible refine K_seq ?_ | with_reducible refine K_seqE ?_ | with_reducible refine K_seqR ?_ | with_reducible refine K_block ?_ | with_reducible refine K_blockR ?_ | with_reducible refine K_blockE ?_ | with_reducible refine K_forE ?_ | with_reducible refine K_forR ?_ | with_reducible refine K_rndE ?_ | with_reducible refine K_rndR ?_ | with_reducible refine O_o2r ?_ | ((with_reducible apply K_blockN); decide) | ((with_reducible apply O_r); (focus (simp only [push_cast, seval]; rfl)); (focus (first | exact trivial | omega))) | ((with_reducible apply O_w); (focus (simp only [push_cast, seval]; rfl)); (focus (first | exact trivial | omega))) | ((with_reducible apply O_x); (focus (simp only [push_cast, seval]; rfl)); (focus (first | exact trivial | omega)); (focus exact Rer_nil)))
            apply K_rnd (ps.take (ps.length - 1))
            (focus (simp only [List.length_take]; omega))
            rotate_left
            (focus exact ⟨(trimE_step hb' hs0 (by simp [hs1])).trans hp1, by simp only [List.length_take]; omega⟩)
            exact imp_st (by simp only [keepS, push_cast, seval, and_self]) (by simp only [keepH, push_cast, seval, and_self])
          · have hfin : ps = trimP z := by
              rw [← hp1]
              refine (trimE_stop ?_).symm
              by_cases h1 : 1 < ps.length
              · obtain ⟨s0, hs0, hv0⟩ := hlast h1
                refine .inr ⟨s0, hs0, ?_⟩
                rw [← hv0]
                simp only [Bool.and_eq_false_iff, decide_eq_false_iff_not] at hb
                rcases hb with hb | hb
                · omega
                · exact hb
              · exact .inl h1
            subst hfin
            repeat' (first | ((with_reducible apply O_idxK); (focus (simp only [push_cast, seval]; rfl)); (focus (simp only [push_cast, seval]; rfl)); (focus (simp only [push_cast, seval]; rfl)); (focus exact hpl2); (focus rfl)) | ((with_reducible apply O_ldK); (focus (simp only [push_cast, seval]; rfl)); (focus (simp only [push_cast, seval]; rfl)); (focus exact hpl); (focus (simp only [push_cast, seval]; rfl)); (focus rfl)) | ((with_reducible apply O_stK); (focus (simp only [push_cast, seval]; rfl)); (focus (simp only [push_cast, seval]; rfl)); (focus (simp only [push_cast, seval]; rfl)); (focus exact hpl2); (focus simp); (focus (simp only [push_cast, seval]; rfl))) | with_reducible refine W_seq ?_ | with_reducible refine W_reg ?_ | with_reducible refine W_regD ?_ | with_reducible refine W_regE ?_ | with_reducible refine W_regP ?_ | with_reducible refine W_block ?_ | with_reducible refine W_skip ?_ | with_reducible refine W_ret ?_ | with_reducible refine W_exit ?_ | with_reducible refine O_nil ?_ | with_reducible refine K_seq ?_ | with_reducible refine K_seqE ?_ | with_reducible refine K_seqR ?_ | with_reducible refine K_block ?_ | with_reducible refine K_blockR ?_ | with_reducible refine K_blockE ?_ | with_reducible refine K_forE ?_ | with_reducible refine K_forR ?_ | with_reducible refine K_rndE ?_ | with_reducible refine K_rndR ?_ | with_reducible refine O_o2r ?_ | ((with_reducible apply K_blockN); decide) | ((with_reducible apply O_r); (focus (simp only [push_cast, seval]; rfl)); (focus (first | exact trivial | omega))) | ((with_reducible apply O_w); (focus (simp only [push_cast, seval]; rfl)); (focus (first | exact trivial | omega))) | ((with_reducible apply O_x); (focus (simp only [push_cast, seval]; rfl)); (focus (first | exact trivial | omega)); (focus exact Rer_nil)))
            have e2 : zrow (vrowO [.sh] (rowL rowS) ((doneTo trimP y.fRepeats k).take k)) [.d (.slice (List.map rowS (trimP z)))] (vrowO [.sh] (rowL rowS) ((doneTo trimP y.fRepeats k).drop (k + 1))) = vrowO [.sh] (rowL rowS) (doneTo trimP y.fRepeats (k + 1)) := by
              rw [← doneTo_set hz]; exact zrow_un (ms := [.sh]) (row := rowL rowS) (trimP z) hlt2
            apply K_for ()
            (focus (simp only [push_cast, seval]))
            rotate_left
            (focus exact trivial)
            exact imp_st (by simp only [keepS, push_cast, seval, and_self]) (by simp only [keepH, push_cast, seval, e2, and_self])
      case gdone =>
        intro _ _
        dsimp only
        rw [doneTo_all]
        repeat' (first | with_reducible refine W_seq ?_ | with_reducible refine W_reg ?_ | with_reducible refine W_regD ?_ | with_reducible refine W_regE ?_ | with_reducible refine W_regP ?_ | with_reducible refine W_block ?_ | with_reducible refine W_skip ?_ | with_reducible refine W_ret ?_ | with_reducible refine W_exit ?_ | with_reducible refine O_nil ?_ | with_reducible refine K_seq ?_ | with_reducible refine K_seqE ?_ | with_reducible refine K_seqR ?_ | with_reducible refine K_block ?_ | with_reducible refine K_blockR ?_ | with_reducible refine K_blockE ?_ | with_reducible refine K_forE ?_ | with_reducible refine K_forR ?_ | with_reducible refine K_rndE ?_ | with_reducible refine K_rndR ?_ | with_reducible refine O_o2r ?_ | ((with_reducible apply K_blockN); decide) | ((with_reducible apply O_r); (focus (simp only [push_cast, seval]; rfl)); (focus (first | exact trivial | omega))) | ((with_reducible apply O_w); (focus (simp only [push_cast, seval]; rfl)); (focus (first | exact trivial | omega))) | ((with_reducible apply O_x); (focus (simp only [push_cast, seval]; rfl)); (focus (first | exact trivial | omega)); (focus exact Rer_nil)))
        unfold sc_wire_short_B3 sc_wire_short_L3
        refine W_block ?_
        refine W_rounds (α := List (List (List UInt8))) (fun l2 => st [(1, .ref 1 0), (2, .ref 2 0), (4, .vref 10 1 i 0), (12, .vec 10), (13, .d (.int .i64 (els.length : Int))), (14, .d (.int .i64 (i : Int)))]
          [(1, .box [.d (.str tag), .vec 10]), (2, .box [.d (.str []), .nils]), (10, .vec 77 1 (zrow (vrowO msE2 rTapi_Element ((doneTo shE els i).take i)) [.vec 24] (vrowO msE2 rTapi_Element ((doneTo shE els i).drop (i + 1))))), (24, .vec 67 1 (vrowO [.sh] (rowL rowS) l2))])
          (fun l2 => l2.length) (fun l2 => trimE 1 isE l2 = trimR y.fRepeats ∧ l2.length ≤ y.fRepeats.length) (y.fRepeats.map trimP) ?m0 ⟨rfl, by simp⟩ ?mround
        case m0 => exact imp_st (by simp only [keepS, push_cast, seval, and_self]) (by simp only [keepH, push_cast, seval, and_self])
        case mround =>
          rintro l2 ⟨hp1, hp2⟩
          obtain ⟨v, hv⟩ : ∃ v, v = (match l2[l2.length - 1]? with | some s => isE s | none => false) := ⟨_, rfl⟩
          have hw : 1 < l2.length → IntKind.i64.wrap ((l2.length : Int) - 1) = ((l2.length - 1 : Nat) : Int) := fun h => by rw [wrap64 _ (by omega) (by omega)]; omega
          have hlast : 1 < l2.length → ∃ s, l2[l2.length - 1]? = some s ∧ v = isE s := fun h => by
            refine ⟨l2[l2.length - 1], List.getElem?_eq_getElem (by omega), ?_⟩
            rw [hv, List.getElem?_eq_getElem (by omega : l2.length - 1 < l2.length)]
          repeat' (first | ((with_reducible apply O_ldK); (focus (simp only [push_cast, seval]; rfl)); (focus (simp only [push_cast, seval]; rfl)); (focus exact hpl); (focus (simp only [push_cast, seval]; rfl)); (focus rfl)) | ((with_reducible apply O_andD (v := v)); (focus (simp only [push_cast, seval]; rfl)); (focus rfl); rotate_left; intro g) | with_reducible refine W_seq ?_ | with_reducible refine W_reg ?_ | with_reducible refine W_regD ?_ | with_reducible refine W_regE ?_ | with_reducible refine W_regP ?_ | with_reducible refine W_block ?_ | with_reducible refine W_skip ?_ | with_reducible refine W_ret ?_ | with_reducible refine W_exit ?_ | with_reducible refine O_nil ?_ | with_reducible refine K_seq ?_ | with_reducible refine K_seqE ?_ | with_reducible refine K_seqR ?_ | with_reducible refine K_block ?_ | with_reducible refine K_blockR ?_ | with_reducible refine K_blockE ?_ | with_reducible refine K_forE ?_ | with_reducible refine K_forR ?_ | with_reducible refine K_rndE ?_ | with_reducible refine K_rndR ?_ | with_reducible refine O_o2r ?_ | ((with_reducible apply K_blockN); decide) | ((with_reducible apply O_r); (focus (simp only [push_cast, seval]; rfl)); (focus (first | exact trivial | omega))) | ((with_reducible apply O_w); (focus (simp only [push_cast, seval]; rfl)); (focus (first | exact trivial | omega))) | ((with_reducible apply O_x); (focus (simp only [push_cast, seval]; rfl)); (focus (first | exact trivial | omega)); (focus exact Rer_nil)))
          rotate_left
          · intro hb
            have hb' : 1 < l2.length := by have := of_decide_eq_true hb; omega
            obtain ⟨s0, hs0, rfl⟩ := hlast hb'
            have hgi : getI l2 (IntKind.i64.wrap ((l2.length : Int) - 1)) = some s0 := by rw [hw hb']; exact getI_ofN hs0
            repeat' (first | ((with_reducible apply O_ldK); (focus (simp only [push_cast, seval]; rfl)); (focus (simp only [push_cast, seval]; rfl)); (focus exact hpl); (focus (simp only [push_cast, seval]; rfl)); (focus rfl)) | ((with_reducible apply O_idxG); (focus (simp only [push_cast, seval]; rfl)); (focus (simp only [push_cast, seval]; rfl)); (focus (simp only [push_cast, seval]; rfl)); (focus exact hgi)) | ((with_reducible apply O_ldG); (focus (simp only [push_cast, seval]; rfl)); (focus (simp only [push_cast, seval]; rfl)); (focus exact getI_get hgi); (focus (simp only [push_cast, seval]; rfl)); (focus rfl)) | ((with_reducible apply O_c); (focus (simp only [push_cast, seval]; rfl)); (focus exact pure_isE s0)) | with_reducible refine W_seq ?_ | with_reducible refine W_reg ?_ | with_reducible refine W_regD ?_ | with_reducible refine W_regE ?_ | with_reducible refine W_regP ?_ | with_reducible refine W_block ?_ | with_reducible refine W_skip ?_ | with_reducible refine W_ret ?_ | with_reducible refine W_exit ?_ | with_reducible refine O_nil ?_ | with_reducible refine K_seq ?_ | with_reducible refine K_seqE ?_ | with_reducible refine K_seqR ?_ | with_reducible refine K_block ?_ | with_reducible refine K_blockR ?_ | with_reducible refine K_blockE ?_ | with_reducible refine K_forE ?_ | with_reducible refine K_forR ?_ | with_reducible refine K_rndE ?_ | with_reducible refine K_rndR ?_ | with_reducible refine O_o2r ?_ | ((with_reducible apply K_blockN); decide) | ((with_reducible apply O_r); (focus (simp only [push_cast, seval]; rfl)); (focus (first | exact trivial | omega))) | ((with_reducible apply O_w); (focus (simp only [push_cast, seval]; rfl)); (focus (first | exact trivial | omega))) | ((with_reducible apply O_x); (focus (simp only [push_cast, seval]; rfl)); (focus (first | exact trivial | omega)); (focus exact Rer_nil)))
            unfold boolK
            simp only [push_cast, seval]
          refine W_condB (b := decide ((1 : Int) < l2.length) && v) (by (simp only [push_cast, seval]; (try rfl); done)) (fun hb => ?_) (fun hb => ?_)
          · simp only [Bool.and_eq_true, decide_eq_true_eq] at hb
            have hb' : 1 < l2.length := by omega
            obtain ⟨s0, hs0, hv0⟩ := hlast hb'
            repeat' (first | ((with_reducible apply O_ldK); (focus (simp only [push_cast, seval]; rfl)); (focus (simp only [push_cast, seval]; rfl)); (focus exact hpl); (focus (simp only [push_cast, seval]; rfl)); (focus rfl)) | ((with_reducible apply O_truncDx (l2.length - 1)); (focus (simp only [push_cast, seval]; rfl)); (focus (simp only [push_cast, seval]; rfl)); (focus (simp only [push_cast, seval]; rfl)); (focus exact hw hb'); (focus (simp only [vrowO_length]; omega)); (focus ((repeat' (first | exact Rer_nil | ((with_reducible apply Rer_cons); (focus (simp only [push_cast, seval]; rfl)); (focus exact trivial); (focus (simp only [push_cast, seval]))))); done))) | ((with_reducible apply O_stKx); (focus (simp only [push_cast, seval]; rfl)); (focus (simp only [push_cast, seval]; rfl)); (focus (simp only [push_cast, seval]; rfl)); (focus exact hpl); (focus simp); (focus (simp only [push_cast, seval]; rfl)); (focus exact Rer_nil)) | with_reducible refine W_seq ?_ | with_reducible refine W_reg ?_ | with_reducible refine W_regD ?_ | with_reducible refine W_regE ?_ | with_reducible refine W_regP ?_ | with_reducible refine W_block ?_ | with_reducible refine W_skip ?_ | with_reducible refine W_ret ?_ | with_reducible refine W_exit ?_ | with_reducible refine O_nil ?_ | with_reducible refine K_seq ?_ | with_reducible refine K_seqE ?_ | with_reducible refine K_seqR ?_ | with_reducible refine K_block ?_ | with_reducible refine K_blockR ?_ | with_reducible refine K_blockE ?_ | with_reducible refine K_forE ?_ | with_reducible refine K_forR ?_ | with_reducible refine K_rndE ?_ | with_reducible refine K_rndR ?_ | with_reducible refine O_o2r ?_ | ((with_reducible apply K_blockN); decide) | ((with_reducible apply O_r); (focus (simp only [push_cast, seval]; rfl)); (focus (first | exact trivial | omega))) | ((with_reducible apply O_w); (focus (simp only [push_cast, seval]; rfl)); (focus (first | exact trivial | omega))) | ((with_reducible apply O_x); (focus (simp only [push_cast, seval]; rfl)); (focus (first | exact trivial | omega)); (focus exact Rer_nil)))
            apply K_rnd (l2.take (l2.length - 1))
            (focus (simp only [List.length_take]; omega))
            rotate_left
            (focus exact ⟨(trimE_step hb' hs0 (by rw [← hv0]; exact hb.2)).trans hp1, by simp only [List.length_take]; omega⟩)
            exact imp_st (by simp only [keepS, push_cast, seval, and_self]) (by simp only [keepH, push_cast, seval, vrowO_take, and_self])
          · have hfin : l2 = trimR y.fRepeats := by
              rw [← hp1]
              refine (trimE_stop ?_).symm
              by_cases h1 : 1 < l2.length
              · obtain ⟨s0, hs0, hv0⟩ := hlast h1
                refine .inr ⟨s0, hs0, ?_⟩
                rw [← hv0]
                simp only [Bool.and_eq_false_iff, decide_eq_false_iff_not] at hb
                rcases hb with hb | hb
                · omega
                · exact hb
              · exact .inl h1
            subst hfin
            repeat' (first | with_reducible refine W_seq ?_ | with_reducible refine W_reg ?_ | with_reducible refine W_regD ?_ | with_reducible refine W_regE ?_ | with_reducible refine W_regP ?_ | with_reducible refine W_block ?_ | with_reducible refine W_skip ?_ | with_reducible refine W_ret ?_ | with_reducible refine W_exit ?_ | with_reducible refine O_nil ?_ | with_reducible refine K_seq ?_ | with_reducible refine K_seqE ?_ | with_reducible refine K_seqR ?_ | with_reducible refine K_block ?_ | with_reducible refine K_blockR ?_ | with_reducible refine K_blockE ?_ | with_reducible refine K_forE ?_ | with_reducible refine K_forR ?_ | with_reducible refine K_rndE ?_ | with_reducible refine K_rndR ?_ | with_reducible refine O_o2r ?_ | ((with_reducible apply K_blockN); decide) | ((with_reducible apply O_r); (focus (simp only [push_cast, seval]; rfl)); (focus (first | exact trivial | omega))) | ((with_reducible apply O_w); (focus (simp only [push_cast, seval]; rfl)); (focus (first | exact trivial | omega))) | ((with_reducible apply O_x); (focus (simp only [push_cast, seval]; rfl)); (focus (first | exact trivial | omega)); (focus exact Rer_nil)))
            have e3 : zrow (vrowO msE2 rTapi_Element ((doneTo shE els i).take i)) [.own (.sl 67 [.sh]) (.slice (List.map (rowL rowS) (trimR y.fRepeats)))] (vrowO msE2 rTapi_Element ((doneTo shE els i).drop (i + 1))) = vrowO msE2 rTapi_Element (doneTo shE els (i + 1)) := by
              rw [← doneTo_set hy]; exact zrow_un (ms := msE2) (row := rTapi_Element) (shE y) hlt
            apply K_for ()
            (focus (simp only [push_cast, seval]))
            rotate_left
            (focus exact trivial)
            refine Imp.trans (imp_closeZ (id := 10) (cid := 24) (off := 0) (ms' := [.sh]) (row' := rowL rowS) (y := trimR y.fRepeats) (k := i) (by (simp only [push_cast, seval]; (try rfl); done)) (by (simp only [push_cast, seval]; (try rfl); done)) hpl.symm (by (simp only [push_cast, seval]; (try rfl); done)) r_rflO rfl (fun _ => rfl) (by decide) (by (simp only [push_cast, seval]; (try rfl); done))) ?_
            exact imp_st (by simp only [keepS, push_cast, seval, and_self]) (by simp only [keepH, push_cast, seval, e3, and_self])
    case done =>
      intro _ _
      dsimp only
      rw [doneTo_all]
      repeat' (first | with_reducible refine W_seq ?_ | with_reducible refine W_reg ?_ | with_reducible refine W_regD ?_ | with_reducible refine W_regE ?_ | with_reducible refine W_regP ?_ | with_reducible refine W_block ?_ | with_reducible refine W_skip ?_ | with_reducible refine W_ret ?_ | with_reducible refine W_exit ?_ | with_reducible refine O_nil ?_ | with_reducible refine K_seq ?_ | with_reducible refine K_seqE ?_ | with_reducible refine K_seqR ?_ | with_reducible refine K_block ?_ | with_reducible refine K_blockR ?_ | with_reducible refine K_blockE ?_ | with_reducible refine K_forE ?_ | with_reducible refine K_forR ?_ | with_reducible refine K_rndE ?_ | with_reducible refine K_rndR ?_ | with_reducible refine O_o2r ?_ | ((with_reducible apply K_blockN); decide) | ((with_reducible apply O_r); (focus (simp only [push_cast, seval]; rfl)); (focus (first | exact trivial | omega))) | ((with_reducible apply O_w); (focus (simp only [push_cast, seval]; rfl)); (focus (first | exact trivial | omega))) | ((with_reducible apply O_x); (focus (simp only [push_cast, seval]; rfl)); (focus (first | exact trivial | omega)); (focus exact Rer_nil)))
      unfold sc_wire_short_B5 sc_wire_short_L5
      refine W_block ?_
      refine W_rounds (α := List Tapi_Element) (fun l => st [(1, .ref 1 0), (2, .ref 2 0), (7, .d (.int .i64 (l.length : Int)))] [(1, .box [.d (.str tag), .vec 10]), (2, .box [.d (.str []), .nils]), (10, .vec 77 1 (vrowO [.sh] rTapi_Element l))])
        (fun l => l.length) (fun l => trimE 0 bareE l = trimE 0 bareE (els.map shE) ∧ l.length ≤ els.length) (els.map shE) ?n0 ⟨rfl, by simp⟩ ?nround
      case n0 =>
        refine Imp.trans (imp_mle (id := 10) (ms := msE2) (row := rTapi_Element) [.sh] (by (simp only [push_cast, seval]; rfl)) (fun _ => rfl) (by decide)) ?_
        exact imp_st (by simp only [keepS, push_cast, seval, and_self]) (by simp only [keepH, push_cast, seval, and_self])
      case nround =>
        rintro l ⟨hp1, hp2⟩
        repeat' (first | with_reducible refine W_seq ?_ | with_reducible refine W_reg ?_ | with_reducible refine W_regD ?_ | with_reducible refine W_regE ?_ | with_reducible refine W_regP ?_ | with_reducible refine W_block ?_ | with_reducible refine W_skip ?_ | with_reducible refine W_ret ?_ | with_reducible refine W_exit ?_ | with_reducible refine O_nil ?_ | with_reducible refine K_seq ?_ | with_reducible refine K_seqE ?_ | with_reducible refine K_seqR ?_ | with_reducible refine K_block ?_ | with_reducible refine K_blockR ?_ | with_reducible refine K_blockE ?_ | with_reducible refine K_forE ?_ | with_reducible refine K_forR ?_ | with_reducible refine K_rndE ?_ | with_reducible refine K_rndR ?_ | with_reducible refine O_o2r ?_ | ((with_reducible apply K_blockN); decide) | ((with_reducible apply O_r); (focus (simp only [push_cast, seval]; rfl)); (focus (first | exact trivial | omega))) | ((with_reducible apply O_w); (focus (simp only [push_cast, seval]; rfl)); (focus (first | exact trivial | omega))) | ((with_reducible apply O_x); (focus (simp only [push_cast, seval]; rfl)); (focus (first | exact trivial | omega)); (focus exact Rer_nil)))
        refine W_condB (b := decide ((0 : Int) < l.length)) (by (simp only [push_cast, seval]; (try rfl); done)) (fun hb => ?_) (fun hb => ?_)
        · have hb' : 0 < l.length := by have := of_decide_eq_true hb; omega
          obtain ⟨x0, hx0⟩ : ∃ x0, l[l.length - 1]? = some x0 := ⟨l[l.length - 1], List.getElem?_eq_getElem (by omega)⟩
          have hw : IntKind.i64.wrap ((l.length : Int) - 1) = ((l.length - 1 : Nat) : Int) := by rw [wrap64 _ (by omega) (by omega)]; omega
          have hgi : getI l (IntKind.i64.wrap ((l.length : Int) - 1)) = some x0 := by rw [hw]; exact getI_ofN hx0
          obtain ⟨v, hv⟩ : ∃ v, v = (match x0.fRepeats[0]? with | some s => !isE s | none => false) := ⟨_, rfl⟩
          have hbare : (!decide ((x0.fRepeats.length : Int) = 1) || v) = !bareE x0 := by
            rw [hv]; unfold bareE isE
            match x0.fRepeats with
            | [] => rfl
            | [s] => simp
            | s :: s' :: r => simp; omega
          repeat' (first | ((with_reducible apply O_idxG); (focus (simp only [push_cast, seval]; rfl)); (focus (simp only [push_cast, seval]; rfl)); (focus (simp only [push_cast, seval]; rfl)); (focus exact hgi)) | ((with_reducible apply O_ldG); (focus (simp only [push_cast, seval]; rfl)); (focus (simp only [push_cast, seval]; rfl)); (focus exact getI_get hgi); (focus (simp only [push_cast, seval]; rfl)); (focus rfl)) | ((with_reducible apply O_orD (v := v)); (focus (simp only [push_cast, seval]; rfl)); (focus rfl); rotate_left; intro g) | with_reducible refine W_seq ?_ | with_reducible refine W_reg ?_ | with_reducible refine W_regD ?_ | with_reducible refine W_regE ?_ | with_reducible refine W_regP ?_ | with_reducible refine W_block ?_ | with_reducible refine W_skip ?_ | with_reducible refine W_ret ?_ | with_reducible refine W_exit ?_ | with_reducible refine O_nil ?_ | with_reducible refine K_seq ?_ | with_reducible refine K_seqE ?_ | with_reducible refine K_seqR ?_ | with_reducible refine K_block ?_ | with_reducible refine K_blockR ?_ | with_reducible refine K_blockE ?_ | with_reducible refine K_forE ?_ | with_reducible refine K_forR ?_ | with_reducible refine K_rndE ?_ | with_reducible refine K_rndR ?_ | with_reducible refine O_o2r ?_ | ((with_reducible apply K_blockN); decide) | ((with_reducible apply O_r); (focus (simp only [push_cast, seval]; rfl)); (focus (first | exact trivial | omega))) | ((with_reducible apply O_w); (focus (simp only [push_cast, seval]; rfl)); (focus (first | exact trivial | omega))) | ((with_reducible apply O_x); (focus (simp only [push_cast, seval]; rfl)); (focus (first | exact trivial | omega)); (focus exact Rer_nil)))
          rotate_left
          · intro hb1
            obtain ⟨s0, hs0⟩ : ∃ s0, x0.fRepeats[0]? = some s0 := by
              have h1 : x0.fRepeats.length = 1 := by
                have := hb1
                simp only [Bool.not_eq_false', decide_eq_true_eq] at this
                omega
              exact ⟨x0.fRepeats[0], List.getElem?_eq_getElem (by omega)⟩
            have hv0 : v = !isE s0 := by rw [hv, hs0]
            subst hv0
            have hgi0 : getI x0.fRepeats 0 = some s0 := by simpa [getI] using hs0
            repeat' (first | ((with_reducible apply O_idxD); (focus (simp only [push_cast, seval]; rfl)); (focus (simp only [push_cast, seval]; rfl)); (focus (intro _; rfl)); (focus exact hgi0)) | ((with_reducible apply O_c); (focus (simp only [push_cast, seval]; rfl)); (focus exact pure_isE s0)) | with_reducible refine W_seq ?_ | with_reducible refine W_reg ?_ | with_reducible refine W_regD ?_ | with_reducible refine W_regE ?_ | with_reducible refine W_regP ?_ | with_reducible refine W_block ?_ | with_reducible refine W_skip ?_ | with_reducible refine W_ret ?_ | with_reducible refine W_exit ?_ | with_reducible refine O_nil ?_ | with_reducible refine K_seq ?_ | with_reducible refine K_seqE ?_ | with_reducible refine K_seqR ?_ | with_reducible refine K_block ?_ | with_reducible refine K_blockR ?_ | with_reducible refine K_blockE ?_ | with_reducible refine K_forE ?_ | with_reducible refine K_forR ?_ | with_reducible refine K_rndE ?_ | with_reducible refine K_rndR ?_ | with_reducible refine O_o2r ?_ | ((with_reducible apply K_blockN); decide) | ((with_reducible apply O_r); (focus (simp only [push_cast, seval]; rfl)); (focus (first | exact trivial | omega))) | ((with_reducible apply O_w); (focus (simp only [push_cast, seval]; rfl)); (focus (first | exact trivial | omega))) | ((with_reducible apply O_x); (focus (simp only [push_cast, seval]; rfl)); (focus (first | exact trivial | omega)); (focus exact Rer_nil)))
            unfold boolK
            simp only [push_cast, seval]
          refine W_condB (b := !decide ((x0.fRepeats.length : Int) = 1) || v) (by (simp only [push_cast, seval]; (try rfl); done)) (fun hb1 => ?_) (fun hb1 => ?_)
          · have hfin : trimE 0 bareE l = l := trimE_stop (.inr ⟨x0, hx0, by rw [hbare] at hb1; simpa using hb1⟩)
            have hl : l = trimE 0 bareE (els.map shE) := by rw [← hp1, hfin]
            subst hl
            repeat' (first | with_reducible refine W_seq ?_ | with_reducible refine W_reg ?_ | with_reducible refine W_regD ?_ | with_reducible refine W_regE ?_ | with_reducible refine W_regP ?_ | with_reducible refine W_block ?_ | with_reducible refine W_skip ?_ | with_reducible refine W_ret ?_ | with_reducible refine W_exit ?_ | with_reducible refine O_nil ?_ | with_reducible refine K_seq ?_ | with_reducible refine K_seqE ?_ | with_reducible refine K_seqR ?_ | with_reducible refine K_block ?_ | with_reducible refine K_blockR ?_ | with_reducible refine K_blockE ?_ | with_reducible refine K_forE ?_ | with_reducible refine K_forR ?_ | with_reducible refine K_rndE ?_ | with_reducible refine K_rndR ?_ | with_reducible refine O_o2r ?_ | ((with_reducible apply K_blockN); decide) | ((with_reducible apply O_r); (focus (simp only [push_cast, seval]; rfl)); (focus (first | exact trivial | omega))) | ((with_reducible apply O_w); (focus (simp only [push_cast, seval]; rfl)); (focus (first | exact trivial | omega))) | ((with_reducible apply O_x); (focus (simp only [push_cast, seval]; rfl)); (focus (first | exact trivial | omega)); (focus exact Rer_nil)))
            refine K_endI (imp_freeze (id := 10) (by (simp only [push_cast, seval]; rfl)) (frzR_vrowO (by decide) (fun _ => rfl))) ?_
            apply K_end
            simp only [resOf, resL, RV.get, push_cast, seval]
            rfl
          · repeat' (first | ((with_reducible apply O_truncD (l.length - 1)); (focus (simp only [push_cast, seval]; rfl)); (focus (simp only [push_cast, seval]; rfl)); (focus (simp only [push_cast, seval]; rfl)); (focus exact hw); (focus (simp only [vrowO_length]; omega))) | with_reducible refine W_seq ?_ | with_reducible refine W_reg ?_ | with_reducible refine W_regD ?_ | with_reducible refine W_regE ?_ | with_reducible refine W_regP ?_ | with_reducible refine W_block ?_ | with_reducible refine W_skip ?_ | with_reducible refine W_ret ?_ | with_reducible refine W_exit ?_ | with_reducible refine O_nil ?_ | with_reducible refine K_seq ?_ | with_reducible refine K_seqE ?_ | with_reducible refine K_seqR ?_ | with_reducible refine K_block ?_ | with_reducible refine K_blockR ?_ | with_reducible refine K_blockE ?_ | with_reducible refine K_forE ?_ | with_reducible refine K_forR ?_ | with_reducible refine K_rndE ?_ | with_reducible refine K_rndR ?_ | with_reducible refine O_o2r ?_ | ((with_reducible apply K_blockN); decide) | ((with_reducible apply O_r); (focus (simp only [push_cast, seval]; rfl)); (focus (first | exact trivial | omega))) | ((with_reducible apply O_w); (focus (simp only [push_cast, seval]; rfl)); (focus (first | exact trivial | omega))) | ((with_reducible apply O_x); (focus (simp only [push_cast, seval]; rfl)); (focus (first | exact trivial | omega)); (focus exact Rer_nil)))
            apply K_rnd (l.take (l.length - 1))
            (focus (simp only [List.length_take]; omega))
            rotate_left
            (focus exact ⟨(trimE_step hb' hx0 (by rw [hbare] at hb1; simpa using hb1)).trans hp1, by simp only [List.length_take]; omega⟩)
            have hlen : (l.take (l.length - 1)).length = l.length - 1 := by simp
            exact imp_st (by simp only [keepS, hlen, push_cast, seval, hw, and_self]) (by simp only [keepH, push_cast, seval, vrowO_take, and_self])
        · have hb' : ¬ 0 < l.length := by have := of_decide_eq_false hb; omega
          have hl : l = trimE 0 bareE (els.map shE) := by rw [← hp1, trimE_stop (.inl hb')]
          subst hl
          repeat' (first | with_reducible refine W_seq ?_ | with_reducible refine W_reg ?_ | with_reducible refine W_regD ?_ | with_reducible refine W_regE ?_ | with_reducible refine W_regP ?_ | with_reducible refine W_block ?_ | with_reducible refine W_skip ?_ | with_reducible refine W_ret ?_ | with_reducible refine W_exit ?_ | with_reducible refine O_nil ?_ | with_reducible refine K_seq ?_ | with_reducible refine K_seqE ?_ | with_reducible refine K_seqR ?_ | with_reducible refine K_block ?_ | with_reducible refine K_blockR ?_ | with_reducible refine K_blockE ?_ | with_reducible refine K_forE ?_ | with_reducible refine K_forR ?_ | with_reducible refine K_rndE ?_ | with_reducible refine K_rndR ?_ | with_reducible refine O_o2r ?_ | ((with_reducible apply K_blockN); decide) | ((with_reducible apply O_r); (focus (simp only [push_cast, seval]; rfl)); (focus (first | exact trivial | omega))) | ((with_reducible apply O_w); (focus (simp only [push_cast, seval]; rfl)); (focus (first | exact trivial | omega))) | ((with_reducible apply O_x); (focus (simp only [push_cast, seval]; rfl)); (focus (first | exact trivial | omega)); (focus exact Rer_nil)))
          refine K_endI (imp_freeze (id := 10) (by (simp only [push_cast, seval]; rfl)) (frzR_vrowO (by decide) (fun _ => rfl))) ?_
          apply K_end
          simp only [resOf, resL, RV.get, push_cast, seval]
          rfl
end Go.Proofs.YthailknfgcegoaaDoor
