/-
  Texts of mine, one behind the other (SXShelf, SXLibT, SXLibS, SXShelfI, SXLibI, SXShelfV, SXLibV, SXShelfW, SXLibW, SXFU, SXG6, SXLibO, SXLibP, SXLibC, SXShelfC, SXLibD, SXCodeN, SXNC, SXNX).
-/
import Derived.Ground.NamesProg
import Derived.Shelf.Strings.SlTrimAscii
import Derived.Shelf.Small.Strs
import Derived.Shelf.Strings.IndexAnyAll
import Derived.Test.YtdkncdkdbddgoaaDoorProg
import Derived.Test.YtdkncdkdbddgoaaDoorSXEngY
import Derived.KernelRfl
import Derived.Shelf.Strconv.Itoa3
import Derived.Shelf.Strings.SplitShaped
import Derived.Shelf.Strings.Shaped
import Derived.Shelf.Small.Wraps
import Derived.Shelf.Strconv.Atoi
import Derived.Test.YtdkncdkdbddgoaaDoorSXEngZz
import Derived.Test.YtdkncdkdbddgoaaDoorSXEngRk
import Derived.Test.YtdkncdkdbddgoaaDoorSXEngX
import Derived.Shelf.SlicesE.Clone
import Derived.Shelf.SlGeneric
import Derived.Ground.SlgnProg
import Derived.Test.YtdkncdkdbddgoaaDoorSXEngW
import Derived.Test.YtdkncdkdbddgoaaDoorSXEngWk
/-
  DERIVED: THE SHELF's CONTRACTS AT THIS DUMP, IN PLAIN WORDS (tools/lay-plain.mjs out of 'YtdkncdkdbddgoaaDoorShelf.lean', which tools/lay-shelf.mjs wrote): THE SAME DECLARATIONS UNDER THE SAME NAMES: 'import', 'namespace', 'open', 'def', 'theorem' AND NOTHING ELSE: no command of the shelf's: FOR A HAND-IN. Each laying: the table of numbers ('.._ren') and one theorem, a field a fact of the dump's own or the kernel's comparison; each contract: ONE APPLICATION.
-/
namespace Go.Proofs
open Go.Shelf
def Tryd.lays160_ren : Go.Shelf.Ren := ⟨fun | 160 => 42 | 232 => 52 | 231 => 51 | 227 => 53 | 234 => 55 | 233 => 54 | 236 => 57 | 235 => 56 | 228 => 69 | 271 => 71 | 151 => 70 | 197 => 59 | 120 => 82 | 152 => 81 | 260 => 72 | 137 => 35 | 119 => 87 | 224 => 74 | 225 => 73 | 217 => 46 | 266 => 62 | n => n, fun | 9 => 9 | 4 => 4 | 3 => 3 | 5 => 5 | 117 => 92 | 116 => 91 | 0 => 0 | 124 => 95 | 21 => 21 | 105 => 97 | 46 => 109 | 119 => 119 | 139 => 122 | 138 => 121 | n => n, fun | 3 => 3 | 4 => 4 | n => n⟩
theorem Tryd.lays160 : Go.Proofs.Lays.n160 Tryd.prog Tryd.lays160_ren := {
  mixed := by kernel_rfl
  f119 := Tryd.func87.trans (congrArg some (by kernel_rfl))
  f120 := Tryd.func82.trans (congrArg some (by kernel_rfl))
  f137 := Tryd.func35.trans (congrArg some (by kernel_rfl))
  f151 := Tryd.func70.trans (congrArg some (by kernel_rfl))
  f152 := Tryd.func81.trans (congrArg some (by kernel_rfl))
  f160 := Tryd.func42.trans (congrArg some (by kernel_rfl))
  f197 := Tryd.func59.trans (congrArg some (by kernel_rfl))
  f217 := Tryd.func46.trans (congrArg some (by kernel_rfl))
  f224 := Tryd.func74.trans (congrArg some (by kernel_rfl))
  f225 := Tryd.func73.trans (congrArg some (by kernel_rfl))
  f227 := Tryd.func53.trans (congrArg some (by kernel_rfl))
  f228 := Tryd.func69.trans (congrArg some (by kernel_rfl))
  f231 := Tryd.func51.trans (congrArg some (by kernel_rfl))
  f232 := Tryd.func52.trans (congrArg some (by kernel_rfl))
  f233 := Tryd.func54.trans (congrArg some (by kernel_rfl))
  f234 := Tryd.func55.trans (congrArg some (by kernel_rfl))
  f235 := Tryd.func56.trans (congrArg some (by kernel_rfl))
  f236 := Tryd.func57.trans (congrArg some (by kernel_rfl))
  f260 := Tryd.func72.trans (congrArg some (by kernel_rfl))
  f266 := Tryd.func62.trans (congrArg some (by kernel_rfl))
  f271 := Tryd.func71.trans (congrArg some (by kernel_rfl))
  t0 := Tryd.underlying0
  a0 := Tryd.isAgg0
  z0 := Tryd.sizeOf0
  v0 := Tryd.zeroValue0
  t3 := Tryd.underlying3
  a3 := Tryd.isAgg3
  z3 := Tryd.sizeOf3
  v3 := Tryd.zeroValue3
  t4 := Tryd.underlying4
  a4 := Tryd.isAgg4
  z4 := Tryd.sizeOf4
  v4 := Tryd.zeroValue4
  t5 := Tryd.underlying5
  a5 := Tryd.isAgg5
  z5 := Tryd.sizeOf5
  v5 := Tryd.zeroValue5
  t9 := Tryd.underlying9
  a9 := Tryd.isAgg9
  z9 := Tryd.sizeOf9
  v9 := Tryd.zeroValue9
  t21 := Tryd.underlying21
  a21 := Tryd.isAgg21
  z21 := Tryd.sizeOf21
  v21 := Tryd.zeroValue21
  t46 := Tryd.underlying109
  a46 := Tryd.isAgg109
  z46 := Tryd.sizeOf109
  v46 := Tryd.zeroValue109
  t105 := Tryd.underlying97
  a105 := Tryd.isAgg97
  z105 := Tryd.sizeOf97
  v105 := Tryd.zeroValue97
  t116 := Tryd.underlying91
  a116 := Tryd.isAgg91
  z116 := Tryd.sizeOf91
  t117 := Tryd.underlying92
  a117 := Tryd.isAgg92
  z117 := Tryd.sizeOf92
  v117 := Tryd.zeroValue92
  t119 := Tryd.underlying119
  a119 := Tryd.isAgg119
  z119 := Tryd.sizeOf119
  t124 := Tryd.underlying95
  a124 := Tryd.isAgg95
  z124 := Tryd.sizeOf95
  v124 := Tryd.zeroValue95
  t138 := Tryd.underlying121
  a138 := Tryd.isAgg121
  z138 := Tryd.sizeOf121
  v138 := Tryd.zeroValue121
  t139 := Tryd.underlying122
  a139 := Tryd.isAgg122
  z139 := Tryd.sizeOf122
  v139 := Tryd.zeroValue122
  g3 := by kernel_rfl
  g4 := by kernel_rfl }
def Tryd.lays137_ren : Go.Shelf.Ren := ⟨fun | 137 => 35 | 217 => 46 | 266 => 62 | n => n, fun | 9 => 9 | 5 => 5 | 3 => 3 | n => n, fun | n => n⟩
theorem Tryd.lays137 : Go.Proofs.Lays.n137 Tryd.prog Tryd.lays137_ren := {
  mixed := by kernel_rfl
  f137 := Tryd.func35.trans (congrArg some (by kernel_rfl))
  f217 := Tryd.func46.trans (congrArg some (by kernel_rfl))
  f266 := Tryd.func62.trans (congrArg some (by kernel_rfl))
  t3 := Tryd.underlying3
  a3 := Tryd.isAgg3
  z3 := Tryd.sizeOf3
  v3 := Tryd.zeroValue3
  t5 := Tryd.underlying5
  a5 := Tryd.isAgg5
  z5 := Tryd.sizeOf5
  v5 := Tryd.zeroValue5
  t9 := Tryd.underlying9
  a9 := Tryd.isAgg9
  z9 := Tryd.sizeOf9
  v9 := Tryd.zeroValue9 }
end Go.Proofs

/-
  strings.Trim at a set of ASCII bytes.
-/
namespace Go.Proofs.YtdkncdkdbddgoaaDoor
set_option linter.unusedSimpArgs false
set_option linter.unusedVariables false
open Go.RowKit Go.Shelf

def m_strings_Trim (s cs : List UInt8) : Option (List UInt8) := if s.length ≤ 9223372036854775807 ∧ cs.length < 4294967281 ∧ cs.all (fun b => decide (b.toNat < 128)) = true then some (Lib.trimS s cs) else none
theorem spec_strings_Trim (s cs : List UInt8) : ∀ r, m_strings_Trim s cs = some r → PureSpec Tryd.prog 42 [.str s, .str cs] (.str r) := by
  intro r hr
  unfold m_strings_Trim at hr
  split at hr
  · rename_i h
    obtain ⟨h1, h2, h3⟩ := h
    cases hr
    refine ⟨by kernel_rfl, fun w M vs hM hv _ => ?_⟩
    simp only [RepL, Rep] at hv
    obtain ⟨u, us, rfl, rfl, u', us', rfl, rfl, rfl⟩ := hv
    have hcon := Any.strings_Trim_laid Tryd.lays160 (by kernel_rfl) ⟨s.toArray⟩ ⟨cs.toArray⟩ w (by simpa [ByteArray.size] using h1) (by simpa [ByteArray.size] using h2) (ascii_of_all (by simpa using h3))
    refine Calls.mono hcon ?_
    rintro e w' ⟨rfl, hB⟩
    exact ⟨_, rfl, by simp [Rep], hB⟩
  · cases hr
end Go.Proofs.YtdkncdkdbddgoaaDoor

/-
  strings.IndexByte and strings.ContainsAny (of ASCII).
-/
namespace Go.Proofs.YtdkncdkdbddgoaaDoor
set_option linter.unusedSimpArgs false
set_option linter.unusedVariables false
open Go.RowKit Go.Shelf

def m_strings_IndexByte (s : List UInt8) (c : UInt8) : Option Int := some (Lib.indexByte s c)
theorem spec_strings_IndexByte (s : List UInt8) (c : UInt8) : ∀ r, m_strings_IndexByte s c = some r → PureSpec Tryd.prog 35 [.str s, .int .u8 c.toNat] (.int .i64 r) := by
  intro r hr
  cases hr
  refine ⟨by kernel_rfl, fun w M vs hM hv _ => ?_⟩
  simp only [RepL, Rep] at hv
  obtain ⟨u, us, rfl, rfl, u', us', rfl, rfl, rfl⟩ := hv
  have hcon := Any.strings_IndexByte Tryd.lays137 ⟨s.toArray⟩ (c.toNat : Int) w
  refine Calls.mono hcon ?_
  rintro e w' ⟨rfl, rfl⟩
  refine ⟨_, rfl, ?_, Below.refl _ _⟩
  simp only [Rep]
  have : ((c.toNat : Int)).toNat.toUInt8 = c := by simp
  rw [this]
end Go.Proofs.YtdkncdkdbddgoaaDoor

/-
  DERIVED: THE SHELF's CONTRACTS AT THIS DUMP, IN PLAIN WORDS (tools/lay-plain.mjs out of 'YtdkncdkdbddgoaaDoorShelfI.lean', which tools/lay-shelf.mjs wrote): THE SAME DECLARATIONS UNDER THE SAME NAMES: 'import', 'namespace', 'open', 'def', 'theorem' AND NOTHING ELSE: no command of the shelf's: FOR A HAND-IN. Each laying: the table of numbers ('.._ren') and one theorem, a field a fact of the dump's own or the kernel's comparison; each contract: ONE APPLICATION.
-/
namespace Go.Proofs
open Go.Shelf
end Go.Proofs

/-
  strconv.Itoa, over the table of the powers of ten.
-/
namespace Go.Proofs.YtdkncdkdbddgoaaDoor
set_option linter.unusedSimpArgs false
set_option linter.unusedVariables false
open Go.RowKit Go.Shelf

end Go.Proofs.YtdkncdkdbddgoaaDoor

/-
  DERIVED: THE SHELF's CONTRACTS AT THIS DUMP, IN PLAIN WORDS (tools/lay-plain.mjs out of 'YtdkncdkdbddgoaaDoorShelfV.lean', which tools/lay-shelf.mjs wrote): THE SAME DECLARATIONS UNDER THE SAME NAMES: 'import', 'namespace', 'open', 'def', 'theorem' AND NOTHING ELSE: no command of the shelf's: FOR A HAND-IN. Each laying: the table of numbers ('.._ren') and one theorem, a field a fact of the dump's own or the kernel's comparison; each contract: ONE APPLICATION.
-/
namespace Go.Proofs
open Go.Shelf
def Tryd.lays146_ren : Go.Shelf.Ren := ⟨fun | 146 => 21 | 221 => 34 | 268 => 43 | 138 => 44 | 143 => 45 | 195 => 58 | 197 => 59 | 218 => 60 | 219 => 61 | 260 => 72 | 217 => 46 | 225 => 73 | 224 => 74 | 267 => 75 | 266 => 62 | 314 => 83 | n => n, fun | 9 => 9 | 31 => 28 | 3 => 3 | 4 => 4 | 0 => 0 | 105 => 97 | 21 => 21 | 5 => 5 | 46 => 109 | 119 => 119 | 139 => 122 | 138 => 121 | 146 => 124 | 51 => 123 | n => n, fun | 1 => 0 | 3 => 3 | 4 => 4 | n => n⟩
theorem Tryd.lays146 : Go.Proofs.LaysM.n146 Tryd.prog Tryd.lays146_ren := {
  mixed := by kernel_rfl
  f138 := Tryd.func44.trans (congrArg some (by kernel_rfl))
  f143 := Tryd.func45.trans (congrArg some (by kernel_rfl))
  f146 := Tryd.func21.trans (congrArg some (by kernel_rfl))
  f195 := Tryd.func58.trans (congrArg some (by kernel_rfl))
  f197 := Tryd.func59.trans (congrArg some (by kernel_rfl))
  f217 := Tryd.func46.trans (congrArg some (by kernel_rfl))
  f218 := Tryd.func60.trans (congrArg some (by kernel_rfl))
  f219 := Tryd.func61.trans (congrArg some (by kernel_rfl))
  f221 := Tryd.func34.trans (congrArg some (by kernel_rfl))
  f224 := Tryd.func74.trans (congrArg some (by kernel_rfl))
  f225 := Tryd.func73.trans (congrArg some (by kernel_rfl))
  f260 := Tryd.func72.trans (congrArg some (by kernel_rfl))
  f266 := Tryd.func62.trans (congrArg some (by kernel_rfl))
  f267 := Tryd.func75.trans (congrArg some (by kernel_rfl))
  f268 := Tryd.func43.trans (congrArg some (by kernel_rfl))
  f314 := Tryd.func83.trans (congrArg some (by kernel_rfl))
  t0 := Tryd.underlying0
  a0 := Tryd.isAgg0
  z0 := Tryd.sizeOf0
  v0 := Tryd.zeroValue0
  t3 := Tryd.underlying3
  a3 := Tryd.isAgg3
  z3 := Tryd.sizeOf3
  v3 := Tryd.zeroValue3
  t4 := Tryd.underlying4
  a4 := Tryd.isAgg4
  z4 := Tryd.sizeOf4
  v4 := Tryd.zeroValue4
  t5 := Tryd.underlying5
  a5 := Tryd.isAgg5
  z5 := Tryd.sizeOf5
  v5 := Tryd.zeroValue5
  t9 := Tryd.underlying9
  a9 := Tryd.isAgg9
  z9 := Tryd.sizeOf9
  v9 := Tryd.zeroValue9
  t21 := Tryd.underlying21
  a21 := Tryd.isAgg21
  z21 := Tryd.sizeOf21
  v21 := Tryd.zeroValue21
  t31 := Tryd.underlying28
  a31 := Tryd.isAgg28
  z31 := Tryd.sizeOf28
  v31 := Tryd.zeroValue28
  t46 := Tryd.underlying109
  a46 := Tryd.isAgg109
  z46 := Tryd.sizeOf109
  v46 := Tryd.zeroValue109
  t51 := Tryd.underlying123
  a51 := Tryd.isAgg123
  z51 := Tryd.sizeOf123
  v51 := Tryd.zeroValue123
  t105 := Tryd.underlying97
  a105 := Tryd.isAgg97
  z105 := Tryd.sizeOf97
  v105 := Tryd.zeroValue97
  t119 := Tryd.underlying119
  a119 := Tryd.isAgg119
  z119 := Tryd.sizeOf119
  t138 := Tryd.underlying121
  a138 := Tryd.isAgg121
  z138 := Tryd.sizeOf121
  v138 := Tryd.zeroValue121
  t139 := Tryd.underlying122
  a139 := Tryd.isAgg122
  z139 := Tryd.sizeOf122
  v139 := Tryd.zeroValue122
  t146 := Tryd.underlying124
  a146 := Tryd.isAgg124
  z146 := Tryd.sizeOf124
  v146 := Tryd.zeroValue124
  g1 := by kernel_rfl
  g3 := by kernel_rfl
  g4 := by kernel_rfl
  i0 := by kernel_rfl
  i3 := by kernel_rfl
  i4 := by kernel_rfl
  i5 := by kernel_rfl
  i9 := by kernel_rfl
  i21 := by kernel_rfl
  i31 := by kernel_rfl
  i46 := by kernel_rfl
  i51 := by kernel_rfl
  i105 := by kernel_rfl
  i138 := by kernel_rfl
  i139 := by kernel_rfl
  i146 := by kernel_rfl
  m1 := by kernel_rfl
  s1_3 := fun w h => Go.Proofs.cell_of_shapedOpen_int (zero := #[.int .i64 0]) (t := 3) h (of_decide_eq_true (by kernel_rfl)) (by kernel_rfl) rfl (by kernel_rfl) (by kernel_rfl) Tryd.underlying3
  m3 := by kernel_rfl
  m4 := by kernel_rfl }
def Tryd.lays172_ren : Go.Shelf.Ren := ⟨fun | 172 => 38 | 244 => 48 | 245 => 49 | 247 => 63 | 279 => 64 | 280 => 65 | 281 => 66 | 282 => 67 | 287 => 76 | 316 => 77 | 171 => 79 | 205 => 78 | 321 => 84 | 322 => 85 | 243 => 86 | 246 => 88 | 283 => 89 | 284 => 90 | 285 => 91 | 286 => 92 | 129 => 94 | 317 => 93 | 318 => 95 | 319 => 96 | 320 => 97 | 337 => 98 | 338 => 99 | n => n, fun | 9 => 9 | 3 => 3 | 75 => 76 | 76 => 77 | 4 => 4 | 5 => 5 | 167 => 99 | 37 => 100 | 0 => 0 | 85 => 101 | 2 => 2 | 168 => 103 | 53 => 110 | 175 => 111 | 46 => 109 | 210 => 115 | 127 => 127 | 145 => 130 | 143 => 128 | 21 => 21 | 171 => 133 | 173 => 136 | 212 => 139 | 51 => 123 | 20 => 20 | 213 => 140 | 232 => 144 | 233 => 145 | 80 => 146 | n => n, fun | 15 => 1 | 16 => 2 | 17 => 5 | 18 => 6 | 19 => 7 | n => n⟩
theorem Tryd.lays172 : Go.Proofs.Lays.n172 Tryd.prog Tryd.lays172_ren := {
  mixed := by kernel_rfl
  f129 := Tryd.func94.trans (congrArg some (by kernel_rfl))
  f171 := Tryd.func79.trans (congrArg some (by kernel_rfl))
  f172 := Tryd.func38.trans (congrArg some (by kernel_rfl))
  f205 := Tryd.func78.trans (congrArg some (by kernel_rfl))
  f243 := Tryd.func86.trans (congrArg some (by kernel_rfl))
  f244 := Tryd.func48.trans (congrArg some (by kernel_rfl))
  f245 := Tryd.func49.trans (congrArg some (by kernel_rfl))
  f246 := Tryd.func88.trans (congrArg some (by kernel_rfl))
  f247 := Tryd.func63.trans (congrArg some (by kernel_rfl))
  f279 := Tryd.func64.trans (congrArg some (by kernel_rfl))
  f280 := Tryd.func65.trans (congrArg some (by kernel_rfl))
  f281 := Tryd.func66.trans (congrArg some (by kernel_rfl))
  f282 := Tryd.func67.trans (congrArg some (by kernel_rfl))
  f283 := Tryd.func89.trans (congrArg some (by kernel_rfl))
  f284 := Tryd.func90.trans (congrArg some (by kernel_rfl))
  f285 := Tryd.func91.trans (congrArg some (by kernel_rfl))
  f286 := Tryd.func92.trans (congrArg some (by kernel_rfl))
  f287 := Tryd.func76.trans (congrArg some (by kernel_rfl))
  f316 := Tryd.func77.trans (congrArg some (by kernel_rfl))
  f317 := Tryd.func93.trans (congrArg some (by kernel_rfl))
  f318 := Tryd.func95.trans (congrArg some (by kernel_rfl))
  f319 := Tryd.func96.trans (congrArg some (by kernel_rfl))
  f320 := Tryd.func97.trans (congrArg some (by kernel_rfl))
  f321 := Tryd.func84.trans (congrArg some (by kernel_rfl))
  f322 := Tryd.func85.trans (congrArg some (by kernel_rfl))
  f337 := Tryd.func98.trans (congrArg some (by kernel_rfl))
  f338 := Tryd.func99.trans (congrArg some (by kernel_rfl))
  t0 := Tryd.underlying0
  a0 := Tryd.isAgg0
  z0 := Tryd.sizeOf0
  v0 := Tryd.zeroValue0
  t2 := Tryd.underlying2
  a2 := Tryd.isAgg2
  z2 := Tryd.sizeOf2
  v2 := Tryd.zeroValue2
  t3 := Tryd.underlying3
  a3 := Tryd.isAgg3
  z3 := Tryd.sizeOf3
  v3 := Tryd.zeroValue3
  t4 := Tryd.underlying4
  a4 := Tryd.isAgg4
  z4 := Tryd.sizeOf4
  v4 := Tryd.zeroValue4
  t5 := Tryd.underlying5
  a5 := Tryd.isAgg5
  z5 := Tryd.sizeOf5
  v5 := Tryd.zeroValue5
  t9 := Tryd.underlying9
  a9 := Tryd.isAgg9
  z9 := Tryd.sizeOf9
  v9 := Tryd.zeroValue9
  t20 := Tryd.underlying20
  a20 := Tryd.isAgg20
  z20 := Tryd.sizeOf20
  v20 := Tryd.zeroValue20
  t21 := Tryd.underlying21
  a21 := Tryd.isAgg21
  z21 := Tryd.sizeOf21
  v21 := Tryd.zeroValue21
  t37 := Tryd.underlying100
  a37 := Tryd.isAgg100
  z37 := Tryd.sizeOf100
  v37 := Tryd.zeroValue100
  t46 := Tryd.underlying109
  a46 := Tryd.isAgg109
  z46 := Tryd.sizeOf109
  v46 := Tryd.zeroValue109
  t51 := Tryd.underlying123
  a51 := Tryd.isAgg123
  z51 := Tryd.sizeOf123
  v51 := Tryd.zeroValue123
  t53 := Tryd.underlying110
  a53 := Tryd.isAgg110
  z53 := Tryd.sizeOf110
  v53 := Tryd.zeroValue110
  t75 := Tryd.underlying76
  a75 := Tryd.isAgg76
  z75 := Tryd.sizeOf76
  v75 := Tryd.zeroValue76
  t76 := Tryd.underlying77
  a76 := Tryd.isAgg77
  z76 := Tryd.sizeOf77
  v76 := Tryd.zeroValue77
  t85 := Tryd.underlying101
  a85 := Tryd.isAgg101
  z85 := Tryd.sizeOf101
  v85 := Tryd.zeroValue101
  t127 := Tryd.underlying127
  a127 := Tryd.isAgg127
  z127 := Tryd.sizeOf127
  v127 := Tryd.zeroValue127
  t143 := Tryd.underlying128
  a143 := Tryd.isAgg128
  z143 := Tryd.sizeOf128
  v143 := Tryd.zeroValue128
  t145 := Tryd.underlying130
  a145 := Tryd.isAgg130
  z145 := Tryd.sizeOf130
  v145 := Tryd.zeroValue130
  t167 := Tryd.underlying99
  a167 := Tryd.isAgg99
  z167 := Tryd.sizeOf99
  v167 := Tryd.zeroValue99
  t168 := Tryd.underlying103
  a168 := Tryd.isAgg103
  z168 := Tryd.sizeOf103
  v168 := Tryd.zeroValue103
  t171 := Tryd.underlying133
  a171 := Tryd.isAgg133
  z171 := Tryd.sizeOf133
  v171 := Tryd.zeroValue133
  t173 := Tryd.underlying136
  a173 := Tryd.isAgg136
  z173 := Tryd.sizeOf136
  v173 := Tryd.zeroValue136
  t175 := Tryd.underlying111
  a175 := Tryd.isAgg111
  z175 := Tryd.sizeOf111
  v175 := Tryd.zeroValue111
  t210 := Tryd.underlying115
  a210 := Tryd.isAgg115
  z210 := Tryd.sizeOf115
  v210 := Tryd.zeroValue115
  t212 := Tryd.underlying139
  a212 := Tryd.isAgg139
  z212 := Tryd.sizeOf139
  v212 := Tryd.zeroValue139
  t213 := Tryd.underlying140
  a213 := Tryd.isAgg140
  z213 := Tryd.sizeOf140
  t232 := Tryd.underlying144
  a232 := Tryd.isAgg144
  z232 := Tryd.sizeOf144
  v232 := Tryd.zeroValue144
  t233 := Tryd.underlying145
  a233 := Tryd.isAgg145
  z233 := Tryd.sizeOf145
  v233 := Tryd.zeroValue145
  g15 := by kernel_rfl
  g16 := by kernel_rfl
  g17 := by kernel_rfl
  g18 := by kernel_rfl
  g19 := by kernel_rfl }
end Go.Proofs

/-
  strings.Split, SplitN, Cut (over the one number of the library that no row lists), CutSuffix, strconv.Atoi at numerals.
-/
namespace Go.Proofs.YtdkncdkdbddgoaaDoor
set_option linter.unusedSimpArgs false
set_option linter.unusedVariables false
open Go.RowKit Go.Shelf

theorem maxLen_at {w : World} (h : Good w) : ∃ m, w.cell? ⟨0, 0, none⟩ = some (.int .i64 m) :=
  TabAt.int (t := (0, .i64, [])) (h (0, .i64, []) (by unfold tabs; simp)) rfl
theorem repRows_strs {w : World} {M : Nat → Prop} {b : Nat} : ∀ (xs : List ByteArray) (o : Nat), (∀ j x, xs[j]? = some x → w.cell? ⟨b, o + j, none⟩ = some (.string x)) → RepRows w M ((xs.map (·.data.toList)).map rowS) b o 1
  | [], o, _ => by simp [RepRows]
  | x :: xs, o, h => by
    simp only [List.map_cons]
    unfold RepRows
    refine ⟨rfl, ?_, repRows_strs xs (o + 1) fun j y hy => by have := h (j + 1) y (by simpa using hy); rwa [show o + (j + 1) = o + 1 + j by omega] at this⟩
    unfold rowS RepAt
    refine ⟨⟨.string x, by simpa using h 0 x rfl, rfl, ?_⟩, by unfold RepAt; trivial⟩
    unfold Rep
    rw [Lib.mk_data]
theorem alloc_cell (w : World) (C : Array Value) (T : TypeId) (j : Nat) : (w.alloc (.cells C T)).cell? ⟨w.heap.size, j, none⟩ = C[j]? := by
  have hh : (w.alloc (.cells C T)).heap[w.heap.size]? = some (.cells C T) := by
    show (w.heap.push _)[w.heap.size]? = _
    simp
  unfold World.cell?
  rw [hh]
  rfl
theorem strs_rep {w : World} {M : Nat → Prop} {xs : List ByteArray} {C : Array Value} {T : TypeId} {cap : Nat} (hM : ∀ b, M b → b < w.heap.size) (hc : ∀ (j : Nat) (x : ByteArray), xs[j]? = some x → C[j]? = some (Value.string x)) (hcap : xs.length ≤ cap) :
    Rep (w.alloc (.cells C T)) M (.slice ((xs.map (·.data.toList)).map rowS)) (.slice (some ⟨w.heap.size, 0, none⟩) xs.length cap) := by
  unfold Rep
  refine ⟨_, _, by rw [List.length_map, List.length_map], by rw [List.length_map, List.length_map]; exact hcap, (fun h => by cases h), .inr ⟨w.heap.size, 0, 1, rfl, fun h => absurd (hM _ h) (Nat.lt_irrefl _), ?_, ?_⟩⟩
  · show _ < (w.heap.push _).size
    rw [Array.size_push]; omega
  · exact repRows_strs xs 0 fun j x hx => by rw [Nat.zero_add, alloc_cell]; exact hc j x hx
theorem below_alloc (w : World) (o : Obj) : Below w.heap.size w (w.alloc o) := (Below.refl _ w).alloc (Nat.le_refl _) _
def m_strings_Split (s sep : List UInt8) : Option (List (List UInt8)) := if s.length < 4294967281 ∧ 1 ≤ sep.length then some (Lib.split s sep) else none
theorem spec_strings_Split (s sep : List UInt8) : ∀ r, m_strings_Split s sep = some r → PureSpec Tryd.prog 21 [.str s, .str sep] (.slice (List.map rowS r)) := by
  intro r hr
  unfold m_strings_Split at hr
  split at hr
  · rename_i h
    cases hr
    refine ⟨by kernel_rfl, fun w M vs hM hv hgood => ?_⟩
    simp only [RepL, Rep] at hv
    obtain ⟨u, us, rfl, rfl, u', us', rfl, rfl, rfl⟩ := hv
    obtain ⟨m, hm⟩ := maxLen_at hgood
    have h1 : (⟨s.toArray⟩ : ByteArray).size < 4294967281 := by simpa [ByteArray.size] using h.1
    have h2 : 1 ≤ (⟨sep.toArray⟩ : ByteArray).size := by simpa [ByteArray.size] using h.2
    refine Calls.mono (Any.strings_Split { Tryd.lays146 with } Tryd.lays146.i9 ⟨s.toArray⟩ ⟨sep.toArray⟩ m w h1 hm h2) ?_
    rintro e w' ⟨rfl, rfl⟩
    have hlen := Lib.splitB_all ⟨sep.toArray⟩ h2 0 _ ⟨s.toArray⟩ rfl
    have hdat := Lib.splitB_data ⟨sep.toArray⟩ 0 (Lib.countB ⟨s.toArray⟩ ⟨sep.toArray⟩) ⟨s.toArray⟩
    refine ⟨_, rfl, ?_, below_alloc _ _⟩
    have := fun T => strs_rep (w := w) (M := M) (T := T) (xs := Lib.splitB ⟨sep.toArray⟩ 0 (Lib.countB ⟨s.toArray⟩ ⟨sep.toArray⟩) ⟨s.toArray⟩) (C := ((Lib.splitB ⟨sep.toArray⟩ 0 (Lib.countB ⟨s.toArray⟩ ⟨sep.toArray⟩) ⟨s.toArray⟩).map Value.string).toArray) (cap := Lib.countB ⟨s.toArray⟩ ⟨sep.toArray⟩ + 1) hM (fun j x hx => by simp [hx]) (by omega)
    simp only [hdat, hlen] at this
    exact this _
  · cases hr
/-! ### strings.SplitN -/
/-! ### strings.Cut, CutSuffix -/
/-! ### strconv.Atoi -/
noncomputable def m_strconv_Atoi (s : List UInt8) : Option Int := if s.length ≤ 18 then Lib.atoi s else none
theorem spec_strconv_Atoi (s : List UInt8) : ∀ r, m_strconv_Atoi s = some r → PureSpec Tryd.prog 38 [.str s] (.tup [.int .i64 r, .raw .nilIface]) := by
  intro r hr
  unfold m_strconv_Atoi at hr
  split at hr
  · rename_i h
    refine ⟨by kernel_rfl, fun w M vs hM hv hgood => ?_⟩
    simp only [RepL, Rep] at hv
    obtain ⟨u, us, rfl, rfl, rfl⟩ := hv
    refine Calls.mono (Any.strconv_Atoi Tryd.lays172 ⟨s.toArray⟩ r (by simpa [ByteArray.size] using h) hr w) ?_
    rintro e w' ⟨rfl, t, rfl⟩
    refine ⟨_, rfl, ?_, ⟨rfl, rfl, rfl, by rw [Lib.bytesWorld_size]; omega, fun j hj => Lib.bytesWorld_at_old w _ t j hj⟩⟩
    unfold Rep
    refine ⟨_, rfl, ?_⟩
    simp [RepL, Rep]
  · cases hr
end Go.Proofs.YtdkncdkdbddgoaaDoor

/-
  DERIVED: THE SHELF's CONTRACTS AT THIS DUMP, IN PLAIN WORDS (tools/lay-plain.mjs out of 'YtdkncdkdbddgoaaDoorShelfW.lean', which tools/lay-shelf.mjs wrote): THE SAME DECLARATIONS UNDER THE SAME NAMES: 'import', 'namespace', 'open', 'def', 'theorem' AND NOTHING ELSE: no command of the shelf's: FOR A HAND-IN. Each laying: the table of numbers ('.._ren') and one theorem, a field a fact of the dump's own or the kernel's comparison; each contract: ONE APPLICATION.
-/
namespace Go.Proofs
open Go.Shelf
end Go.Proofs

/-
  strings.CutPrefix.
-/
namespace Go.Proofs.YtdkncdkdbddgoaaDoor
set_option linter.unusedSimpArgs false
set_option linter.unusedVariables false
open Go.RowKit Go.Shelf

end Go.Proofs.YtdkncdkdbddgoaaDoor

/-
  A number that is great enough for every recursion of the program that ends (its value is kept from the kernel).
-/
namespace Go.Proofs.YtdkncdkdbddgoaaDoor
set_option linter.unusedSimpArgs false
set_option linter.unusedVariables false
theorem FU_ex : ∃ n : Nat, 1000000 ≤ n := ⟨_, Nat.le_refl _⟩
noncomputable def FU : Nat := Classical.choose FU_ex
theorem FU_big : 1000000 ≤ FU := Classical.choose_spec FU_ex
end Go.Proofs.YtdkncdkdbddgoaaDoor

/-
  Bodies of functions and what they compute, printed by programs of mine (wip/tool/gen.py, sc.py) out of the translation; the kernel holds each against the translation.
-/
namespace Go.Proofs.YtdkncdkdbddgoaaDoor
open Go.RowKit
set_option linter.unusedSimpArgs false
set_option linter.unusedVariables false
structure Tapi_Element where
  fRepeats : List (List (List UInt8))
  deriving DecidableEq
def rTapi_Element (x : Tapi_Element) : List DV := [.slice (List.map (rowL rowS) x.fRepeats)]
attribute [push_cast] rTapi_Element
theorem fT_Tapi_Element {d0 : DV} {v0 : List (List (List UInt8))} (h0 : d0 = .slice (List.map (rowL rowS) v0)) : [d0] = rTapi_Element ⟨v0⟩ := by unfold rTapi_Element; simp only [h0, List.cons_append, List.nil_append, List.append_assoc, List.append_nil]
theorem cT_Tapi_Element {d0 : SV} {v0 : List (List (List UInt8))} (h0 : svle d0 (.d (.slice (List.map (rowL rowS) v0)))) : cellsle [d0] (dR (rTapi_Element ⟨v0⟩)) := by have h := (cellsle.consS h0 cellsle.nil); simpa only [rTapi_Element, dR, List.map_append, List.map_cons, List.map_nil, List.cons_append, List.nil_append, List.append_assoc, List.append_nil] using h
theorem eT_Tapi_Element {d0 : SV} {v0 : List (List (List UInt8))} (h0 : d0 = .d (.slice (List.map (rowL rowS) v0))) : [d0] = dR (rTapi_Element ⟨v0⟩) := by simp only [rTapi_Element, dR, List.map_append, List.map_cons, List.map_nil, List.cons_append, List.nil_append, List.append_assoc, List.append_nil, h0]

structure Tapi_Segment where
  fTag : List UInt8
  fElements : List Tapi_Element
  deriving DecidableEq
def rTapi_Segment (x : Tapi_Segment) : List DV := [.str x.fTag, .slice (List.map rTapi_Element x.fElements)]
attribute [push_cast] rTapi_Segment
theorem fT_Tapi_Segment {d0 d1 : DV} {v0 : List UInt8} {v1 : List Tapi_Element} (h0 : d0 = .str v0) (h1 : d1 = .slice (List.map rTapi_Element v1)) : [d0, d1] = rTapi_Segment ⟨v0, v1⟩ := by unfold rTapi_Segment; simp only [h0, h1, List.cons_append, List.nil_append, List.append_assoc, List.append_nil]
theorem cT_Tapi_Segment {d0 d1 : SV} {v0 : List UInt8} {v1 : List Tapi_Element} (h0 : svle d0 (.d (.str v0))) (h1 : svle d1 (.d (.slice (List.map rTapi_Element v1)))) : cellsle [d0, d1] (dR (rTapi_Segment ⟨v0, v1⟩)) := by have h := (cellsle.append (cellsle.consS h0 cellsle.nil) (cellsle.consS h1 cellsle.nil)); simpa only [rTapi_Segment, dR, List.map_append, List.map_cons, List.map_nil, List.cons_append, List.nil_append, List.append_assoc, List.append_nil] using h
theorem eT_Tapi_Segment {d0 d1 : SV} {v0 : List UInt8} {v1 : List Tapi_Element} (h0 : d0 = .d (.str v0)) (h1 : d1 = .d (.slice (List.map rTapi_Element v1))) : [d0, d1] = dR (rTapi_Segment ⟨v0, v1⟩) := by simp only [rTapi_Segment, dR, List.map_append, List.map_cons, List.map_nil, List.cons_append, List.nil_append, List.append_assoc, List.append_nil, h0, h1]

structure Tscheme_pathed where
  fmany : Int
  deriving DecidableEq
def rTscheme_pathed (x : Tscheme_pathed) : List DV := [.int .i64 x.fmany]
attribute [push_cast] rTscheme_pathed
theorem fT_Tscheme_pathed {d0 : DV} {v0 : Int} (h0 : d0 = .int .i64 v0) : [d0] = rTscheme_pathed ⟨v0⟩ := by unfold rTscheme_pathed; simp only [h0, List.cons_append, List.nil_append, List.append_assoc, List.append_nil]
theorem cT_Tscheme_pathed {d0 : SV} {v0 : Int} (h0 : svle d0 (.d (.int .i64 v0))) : cellsle [d0] (dR (rTscheme_pathed ⟨v0⟩)) := by have h := (cellsle.consS h0 cellsle.nil); simpa only [rTscheme_pathed, dR, List.map_append, List.map_cons, List.map_nil, List.cons_append, List.nil_append, List.append_assoc, List.append_nil] using h
theorem eT_Tscheme_pathed {d0 : SV} {v0 : Int} (h0 : d0 = .d (.int .i64 v0)) : [d0] = dR (rTscheme_pathed ⟨v0⟩) := by simp only [rTscheme_pathed, dR, List.map_append, List.map_cons, List.map_nil, List.cons_append, List.nil_append, List.append_assoc, List.append_nil, h0]
theorem oT_Tscheme_pathed {d0 : SV} {v0 : Int}  (h0 : svle d0 (.d (.int .i64 v0))) : cellsle [d0] (ownR [.sh] (rTscheme_pathed ⟨v0⟩)) := by have h := (cellsle.consS h0 cellsle.nil); simp only [push_cast, seval, dR] at h ⊢; exact h
def bT_Tscheme_pathed (p0 : Int) : List SV := [.d (.int .i64 p0)]
attribute [push_cast] bT_Tscheme_pathed
theorem bcT_Tscheme_pathed {d0 : SV}  {v0 : Int} (h0 : svle d0 (.d (.int .i64 v0))) : cellsle [d0] (bT_Tscheme_pathed v0) := by have h := (cellsle.consS h0 cellsle.nil); simp only [bT_Tscheme_pathed, push_cast, seval, dR] at h ⊢; exact h

structure Tapi_Branch where
  fName : List UInt8
  fSegment : Tapi_Segment
  fKids : List Tapi_Branch
mutual
def r0Tapi_Branch : Tapi_Branch → List DV
  | ⟨v0, v1, v2⟩ => [.str v0] ++ rTapi_Segment v1 ++ [.slice (rsTapi_Branch v2)]
def rsTapi_Branch : List Tapi_Branch → List (List DV)
  | [] => []
  | x :: l => r0Tapi_Branch x :: rsTapi_Branch l
end
def rTapi_Branch (x : Tapi_Branch) : List DV := [.str x.fName] ++ rTapi_Segment x.fSegment ++ [.slice (rsTapi_Branch x.fKids)]
theorem r0Tapi_Branch_eq (x : Tapi_Branch) : r0Tapi_Branch x = rTapi_Branch x := by cases x; simp only [r0Tapi_Branch, rTapi_Branch]
theorem rsTapi_Branch_map : ∀ l : List Tapi_Branch, rsTapi_Branch l = List.map rTapi_Branch l
  | [] => by simp only [rsTapi_Branch, List.map_nil]
  | x :: l => by simp only [rsTapi_Branch, List.map_cons, rsTapi_Branch_map l, r0Tapi_Branch_eq]
theorem rTapi_Branch_eq (x : Tapi_Branch) : rTapi_Branch x = [.str x.fName] ++ rTapi_Segment x.fSegment ++ [.slice (List.map rTapi_Branch x.fKids)] := by show [.str x.fName] ++ rTapi_Segment x.fSegment ++ [.slice (rsTapi_Branch x.fKids)] = _; simp only [rsTapi_Branch_map]
attribute [push_cast] rTapi_Branch_eq
theorem Tapi_Branch_eta (x : Tapi_Branch) : (⟨x.fName, x.fSegment, x.fKids⟩ : Tapi_Branch) = x := by cases x; rfl
theorem fT_Tapi_Branch {d0 d1 d2 d3 : DV} {v0 : List UInt8} {v1 : Tapi_Segment} {v2 : List Tapi_Branch} (h0 : d0 = .str v0) (h1 : [d1, d2] = rTapi_Segment v1) (h2 : d3 = .slice (List.map rTapi_Branch v2)) : [d0, d1, d2, d3] = rTapi_Branch ⟨v0, v1, v2⟩ := by rw [rTapi_Branch_eq]; simp only [h0, ← h1, h2, List.cons_append, List.nil_append, List.append_assoc, List.append_nil]
theorem cT_Tapi_Branch {d0 d1 d2 d3 : SV} {v0 : List UInt8} {v1 : Tapi_Segment} {v2 : List Tapi_Branch} (h0 : svle d0 (.d (.str v0))) (h1 : cellsle [d1, d2] (dR (rTapi_Segment v1))) (h2 : svle d3 (.d (.slice (List.map rTapi_Branch v2)))) : cellsle [d0, d1, d2, d3] (dR (rTapi_Branch ⟨v0, v1, v2⟩)) := by have h := (cellsle.append (cellsle.consS h0 cellsle.nil) (cellsle.append h1 (cellsle.consS h2 cellsle.nil))); simpa only [rTapi_Branch_eq, dR, List.map_append, List.map_cons, List.map_nil, List.cons_append, List.nil_append, List.append_assoc, List.append_nil] using h
theorem eT_Tapi_Branch {d0 d1 d2 d3 : SV} {v0 : List UInt8} {v1 : Tapi_Segment} {v2 : List Tapi_Branch} (h0 : d0 = .d (.str v0)) (h1 : ([d1, d2] : List SV) = (dR (rTapi_Segment v1))) (h2 : d3 = .d (.slice (List.map rTapi_Branch v2))) : [d0, d1, d2, d3] = dR (rTapi_Branch ⟨v0, v1, v2⟩) := by show (([d0] ++ ([d1, d2] ++ [d3])) : List SV) = _; rw [h1]; simp only [rTapi_Branch_eq, dR, List.map_append, List.map_cons, List.map_nil, List.cons_append, List.nil_append, List.append_assoc, List.append_nil, h0, h2]

/-- interchange/kit.IsName -/
def sc_kit_IsName : SC :=
  (.seq (.reg [.r 2 (.mv (.c (.d (.bool false))))])
  (.seq (.seq (.reg (.r 3 (.mv (.t 0)) :: .r 4 (.lenT (.t 3)) :: .r 5 (.bin .lss (.t 4) (.c (.d (.int .i64 1)))) :: .r 6 (.mv (.t 5)) :: gapp [7, 8, 9] 6 false (.r 7 (.mv (.t 0)) :: .r 8 (.lenT (.t 7)) :: .r 9 (.bin .gtr (.t 8) (.c (.d (.int .i64 40)))) :: []) (.r 10 (.pick (.t 6) (.c (.d (.bool true))) (.t 9)) :: .r 11 (.mv (.t 10)) :: gapp [12, 13, 14] 11 false (.r 12 (.mv (.t 0)) :: .r 13 (.sidx (.t 12) (.c (.d (.int .i64 0)))) :: .r 14 (.bin .lss (.t 13) (.c (.d (.int .u8 97)))) :: []) (.r 15 (.pick (.t 11) (.c (.d (.bool true))) (.t 14)) :: .r 16 (.mv (.t 15)) :: gapp [17, 18, 19] 16 false (.r 17 (.mv (.t 0)) :: .r 18 (.sidx (.t 17) (.c (.d (.int .i64 0)))) :: .r 19 (.bin .gtr (.t 18) (.c (.d (.int .u8 122)))) :: []) (.r 20 (.pick (.t 16) (.c (.d (.bool true))) (.t 19)) :: [])))))
  (.cond (.t 20)
    (.seq (.reg [.r 2 (.mv (.c (.d (.bool false))))])
    .ret)
    .skip))
  (.seq (.reg [.r 21 (.mv (.t 0)),
     .c 22 (.f 42) [.t 21, .c (.d (.str [97, 98, 99, 100, 101, 102, 103, 104, 105, 106, 107, 108, 109, 110, 111, 112, 113, 114, 115, 116, 117, 118, 119, 120, 121, 122, 48, 49, 50, 51, 52, 53, 54, 55, 56, 57, 45]))],
     .r 23 (.bin .eql (.t 22) (.c (.d (.str [])))),
     .r 2 (.mv (.t 23))])
  .ret)))
theorem fit_kit_IsName : fits Tryd.prog 29 Tryd.f29 sc_kit_IsName [.t 2] 1 = true := by kernel_rfl

/-- interchange/scheme.isZero -/
def sc_scheme_isZero : SC :=
  (.seq (.reg [.r 1 (.boxI (.t 0)),
     .r 2 (.mv (.c (.d (.bool false))))])
  (.seq (.reg (.r 3 (.fld 0 (.t 1)) :: .o 4 (.ld1 (.t 3)) :: .r 5 (.bin .eql (.t 4) (.c (.d (.str [])))) :: .r 6 (.mv (.t 5)) :: gapp [7, 8, 9, 10] 6 true (.r 7 (.fld 1 (.t 1)) :: .r 8 (.ld1 (.t 7)) :: .r 9 (.len (.t 8)) :: .r 10 (.bin .eql (.t 9) (.c (.d (.int .i64 0)))) :: []) (.r 11 (.pick (.t 6) (.t 10) (.c (.d (.bool false)))) :: .r 2 (.mv (.t 11)) :: [])))
  .ret))
theorem fit_scheme_isZero : fits Tryd.prog 39 Tryd.f39 sc_scheme_isZero [.t 2] 1 = true := by kernel_rfl

/-- interchange/kit.IsTagPart -/
def sc_kit_IsTagPart : SC :=
  (.seq (.reg [.r 2 (.mv (.c (.d (.bool false))))])
  (.seq (.reg [.r 3 (.mv (.t 0)),
     .c 4 (.f 42) [.t 3, .c (.d (.str [65, 66, 67, 68, 69, 70, 71, 72, 73, 74, 75, 76, 77, 78, 79, 80, 81, 82, 83, 84, 85, 86, 87, 88, 89, 90, 48, 49, 50, 51, 52, 53, 54, 55, 56, 57]))],
     .r 5 (.bin .eql (.t 4) (.c (.d (.str [])))),
     .r 2 (.mv (.t 5))])
  .ret))
theorem fit_kit_IsTagPart : fits Tryd.prog 36 Tryd.f36 sc_kit_IsTagPart [.t 2] 1 = true := by kernel_rfl

def sc_kit_InBytes_L1 : SC :=
  (.seq (.reg [.r 11 (.bin .lss (.t 10) (.t 9))])
  (.seq (.cond (.t 11)
    .skip
    (.exit 0))
  (.seq (.block 1 (.seq (.reg [.r 12 (.mv (.t 10)),
       .r 7 (.mv (.t 12))])
    (.seq (.reg (.r 13 (.mv (.t 0)) :: .r 14 (.mv (.t 7)) :: .r 15 (.sidx (.t 13) (.t 14)) :: .r 16 (.mv (.t 1)) :: .r 17 (.bin .lss (.t 15) (.t 16)) :: .r 18 (.mv (.t 17)) :: gapp [19, 20, 21, 22, 23] 18 false (.r 19 (.mv (.t 0)) :: .r 20 (.mv (.t 7)) :: .r 21 (.sidx (.t 19) (.t 20)) :: .r 22 (.mv (.t 2)) :: .r 23 (.bin .gtr (.t 21) (.t 22)) :: []) (.r 24 (.pick (.t 18) (.c (.d (.bool true))) (.t 23)) :: [])))
    (.cond (.t 24)
      (.seq (.reg [.r 6 (.mv (.c (.d (.bool false))))])
      .ret)
      .skip))))
  (.reg [.r 25 (.bin .add (.t 10) (.c (.d (.int .i64 1)))),
     .r 10 (.mv (.t 25))]))))
def sc_kit_InBytes_B1 : SC := .block 0 (.loop sc_kit_InBytes_L1)
/-- interchange/kit.InBytes -/
def sc_kit_InBytes : SC :=
  (.seq (.reg [.r 6 (.mv (.c (.d (.bool false))))])
  (.seq (.seq (.reg [.r 8 (.mv (.t 0)),
     .r 9 (.lenT (.t 8)),
     .r 10 (.mv (.c (.d (.int .i64 0))))])
  sc_kit_InBytes_B1)
  (.seq (.reg [.r 6 (.mv (.c (.d (.bool true))))])
  .ret)))
theorem fit_kit_InBytes : fits Tryd.prog 47 Tryd.f47 sc_kit_InBytes [.t 6] 3 = true := by kernel_rfl

set_option maxRecDepth 100000 in
set_option maxHeartbeats 40000000 in
noncomputable def sims_G6_0_0 : (∀ (x0 : List UInt8), {m : Option (Bool) // ∀ r, m = some r → PureSpec Tryd.prog 29 [.str x0] (.bool r)}) × (∀ (x0 : Tapi_Segment), {m : Option (Bool) // ∀ r, m = some r → PureSpec Tryd.prog 39 [.agg (rTapi_Segment x0)] (.bool r)}) × (∀ (x0 : List UInt8), {m : Option (Bool) // ∀ r, m = some r → PureSpec Tryd.prog 36 [.str x0] (.bool r)}) × (∀ (x0 : List UInt8) (x1 : UInt8) (x2 : UInt8), {m : Option (Bool) // ∀ r, m = some r → PureSpec Tryd.prog 47 [.str x0, .int .u8 (x1).toNat, .int .u8 (x2).toNat] (.bool r)}) := by
  refine ⟨?g0, ?g1, ?g2, ?g3⟩
  case' g0 => (intro x0; apply Subtype.mk; intro r hm; apply pure_walk Tryd.func29 fit_kit_IsName; unfold sc_kit_IsName)
  case' g1 => (intro x0; apply Subtype.mk; intro r hm; apply pure_walk Tryd.func39 fit_scheme_isZero; unfold sc_scheme_isZero)
  case' g2 => (intro x0; apply Subtype.mk; intro r hm; apply pure_walk Tryd.func36 fit_kit_IsTagPart; unfold sc_kit_IsTagPart)
  case' g3 => (intro x0 x1 x2; apply Subtype.mk; intro r hm; apply pure_walk Tryd.func47 fit_kit_InBytes; unfold sc_kit_InBytes)
  all_goals (repeat' (first | with_reducible refine W_seq ?_ | with_reducible refine W_reg ?_ | with_reducible refine W_block ?_ | with_reducible refine W_skip ?_ | with_reducible refine W_ret ?_ | with_reducible refine W_exit ?_ | with_reducible refine O_nil ?_ | with_reducible refine K_seq ?_ | with_reducible refine K_seqE ?_ | with_reducible refine K_seqR ?_ | with_reducible refine K_block ?_ | with_reducible refine K_blockR ?_ | with_reducible refine K_blockE ?_ | ((with_reducible apply K_blockN); decide) | with_reducible refine O_o2r ?_ | ((with_reducible apply O_sidxr hm); (iterate 2 (simp only [push_cast, seval]; rfl)); intro e hm) | ((with_reducible apply O_r); (simp only [push_cast, seval]; rfl); (first | exact trivial | omega)) | ((with_reducible apply O_strr hm); (iterate 2 (simp only [push_cast, seval]; rfl)); intro hm) | ((with_reducible apply O_and hm); (simp only [push_cast, seval]; rfl); rfl; intro v hm; rotate_left; intro v g hm) | ((with_reducible apply O_or hm); (simp only [push_cast, seval]; rfl); rfl; intro v hm; rotate_left; intro v g hm) | ((with_reducible apply W_condT); (focus (simp only [push_cast, seval]; done))) | ((with_reducible apply W_condF); (focus (simp only [push_cast, seval]; done))) | ((with_reducible apply O_cF hm); (simp only [push_cast, seval]; rfl); (first | apply spec_strings_Trim _ _); (any_goals ((repeat' (first | rfl | (with_reducible first | apply fT_Tapi_Segment | apply fT_Tapi_Element | apply f_optN | apply f_optS | apply f_some | apply f_tup | apply f_agg | apply f_ptr | apply f_fn | apply dv_slice | apply sv_d | apply f_cons | apply fold_nil | apply fold_cons | apply fold_app | apply f_rowI | apply f_rowY | apply f_rowS | apply f_rowB | apply f_rowL) | (with_reducible apply f_byte; decide))); done)); intro x hm) | ((with_reducible apply S_condB hm); (simp only [push_cast, seval]; rfl); intro hm; rotate_left; intro hm) | ((with_reducible apply K_endS hm); (focus (simp only [resOf, resL, RV.get, push_cast, seval]; rfl)); (focus ((repeat' (first | rfl | (with_reducible first | apply fT_Tapi_Segment | apply fT_Tapi_Element | apply f_optN | apply f_optS | apply f_some | apply f_tup | apply f_agg | apply f_ptr | apply f_fn | apply dv_slice | apply sv_d | apply f_cons | apply fold_nil | apply fold_cons | apply fold_app | apply f_rowI | apply f_rowY | apply f_rowS | apply f_rowB | apply f_rowL) | (with_reducible apply f_byte; decide))); done))) | ((with_reducible apply K_bool hm); (simp only [push_cast, seval]; rfl)) | ((with_reducible apply K_leave hm); intro r hm) | ((with_reducible apply K_leaveR hm); intro r hm) | ((apply S_loopY (b := 0) (X := sc_kit_InBytes_B1) (x := sc_kit_InBytes_L1) rfl (fun (c : SV × SV × SV × SV) (s : Int) => st [(0, c.1), (1, c.2.1), (2, c.2.2.1), (9, c.2.2.2), (10, .d (.int .i64 s))] []) (c := (_, _, _, _)) (s0 := _) hm); (focus (first | (dsimp only; done) | (dsimp only; rfl) | rfl)); (with_reducible refine Then.mk ?_ ?_)) | ((apply K_next (s' := _) hm); (focus (first | (dsimp only; done) | (dsimp only; rfl) | rfl))) | ((apply K_brk (s' := _) hm); (focus (first | (dsimp only; done) | (dsimp only; rfl) | rfl))) | (((with_reducible apply K_brkN hm); (focus decide); intro r hm)) | (((with_reducible apply K_brkR hm); intro r hm)) | (((with_reducible apply LoopB.of); (focus (first | (dsimp only; done) | (dsimp only; rfl) | rfl)); (focus ((intro _; repeat' (first | with_reducible exact impC_end | with_reducible exact impC_endF | with_reducible refine impC_seq ?_ | with_reducible refine impC_block ?_ | ((with_reducible refine impC_rnd ?_); intro _) | ((with_reducible refine impC_brk ?_); intro _))))); (intro s o hm; first | unfold sc_kit_InBytes_L1); rotate_left; intro s hm)) | (((apply imp_stT; (repeat' (first | with_reducible exact keepT_nil | with_reducible exact keepC_nil | with_reducible apply keepT_cons | with_reducible apply keepC_cons | ((with_reducible apply svle_eq); (focus (first | (simp only [push_cast, seval]; rfl) | rfl)); (focus ((repeat' (first | rfl | (with_reducible first | apply fT_Tapi_Segment | apply fT_Tapi_Element | apply f_optN | apply f_optS | apply f_some | apply f_tup | apply f_agg | apply f_ptr | apply f_fn | apply dv_slice | apply sv_d | apply f_cons | apply fold_nil | apply fold_cons | apply fold_app | apply f_rowI | apply f_rowY | apply f_rowS | apply f_rowB | apply f_rowL) | (with_reducible apply f_byte; decide))); done))) | ((with_reducible apply svle_td); (focus (first | (simp only [push_cast, seval]; rfl) | rfl)); (focus (first | (simp only [push_cast, seval]; rfl) | rfl)); (focus ((repeat' (first | rfl | (with_reducible first | apply fT_Tapi_Segment | apply fT_Tapi_Element | apply f_optN | apply f_optS | apply f_some | apply f_tup | apply f_agg | apply f_ptr | apply f_fn | apply dv_slice | apply sv_d | apply f_cons | apply fold_nil | apply fold_cons | apply fold_app | apply f_rowI | apply f_rowY | apply f_rowS | apply f_rowB | apply f_rowL) | (with_reducible apply f_byte; decide))); done))) | ((with_reducible apply chle_eq); (focus (first | (simp only [push_cast, seval]; rfl) | rfl)); (first | with_reducible exact chle_rfl rfl | with_reducible exact chle_map0 | with_reducible apply chle_vec | with_reducible apply chle_box)) | (with_reducible first | apply cT_Tapi_Segment | apply cT_Tapi_Element | apply r_shS | apply r_shI | apply r_rflO | apply r_oneO | apply r_appO | apply r_nilO | apply c_ownN | apply c_ownL | apply vc_rfl | apply vc_nil | apply vc_cons | apply r_rfl | apply r_rows | apply r_nil | apply r_app | apply r_cons | apply c_rowI | apply c_rowY | apply c_rowS | apply c_rowB | apply c_rowL))); done)))))
noncomputable def m_kit_IsName (x0 : List UInt8) : Option (Bool) := (sims_G6_0_0.1 x0).1
theorem spec_kit_IsName (x0 : List UInt8) : ∀ r, m_kit_IsName x0 = some r → PureSpec Tryd.prog 29 [.str x0] (.bool r) := (sims_G6_0_0.1 x0).2
noncomputable def m_scheme_isZero (x0 : Tapi_Segment) : Option (Bool) := (sims_G6_0_0.2.1 x0).1
theorem spec_scheme_isZero (x0 : Tapi_Segment) : ∀ r, m_scheme_isZero x0 = some r → PureSpec Tryd.prog 39 [.agg (rTapi_Segment x0)] (.bool r) := (sims_G6_0_0.2.1 x0).2
noncomputable def m_kit_IsTagPart (x0 : List UInt8) : Option (Bool) := (sims_G6_0_0.2.2.1 x0).1
theorem spec_kit_IsTagPart (x0 : List UInt8) : ∀ r, m_kit_IsTagPart x0 = some r → PureSpec Tryd.prog 36 [.str x0] (.bool r) := (sims_G6_0_0.2.2.1 x0).2
noncomputable def m_kit_InBytes (x0 : List UInt8) (x1 : UInt8) (x2 : UInt8) : Option (Bool) := (sims_G6_0_0.2.2.2 x0 x1 x2).1
theorem spec_kit_InBytes (x0 : List UInt8) (x1 : UInt8) (x2 : UInt8) : ∀ r, m_kit_InBytes x0 x1 x2 = some r → PureSpec Tryd.prog 47 [.str x0, .int .u8 (x1).toNat, .int .u8 (x2).toNat] (.bool r) := (sims_G6_0_0.2.2.2 x0 x1 x2).2

/-- interchange/kit.IsTag -/
def sc_kit_IsTag : SC :=
  (.seq (.reg [.r 2 (.mv (.c (.d (.bool false))))])
  (.seq (.reg (.r 3 (.mv (.t 0)) :: .r 4 (.lenT (.t 3)) :: .r 5 (.bin .geq (.t 4) (.c (.d (.int .i64 2)))) :: .r 6 (.mv (.t 5)) :: gapp [7, 8, 9] 6 true (.r 7 (.mv (.t 0)) :: .r 8 (.lenT (.t 7)) :: .r 9 (.bin .leq (.t 8) (.c (.d (.int .i64 6)))) :: []) (.r 10 (.pick (.t 6) (.t 9) (.c (.d (.bool false)))) :: .r 11 (.mv (.t 10)) :: gapp [12, 13, 14, 15] 11 true (.r 12 (.mv (.t 0)) :: .r 13 (.sidx (.t 12) (.c (.d (.int .i64 0)))) :: .c 14 (.f 35) [.c (.d (.str [65, 66, 67, 68, 69, 70, 71, 72, 73, 74, 75, 76, 77, 78, 79, 80, 81, 82, 83, 84, 85, 86, 87, 88, 89, 90])), .t 13] :: .r 15 (.bin .geq (.t 14) (.c (.d (.int .i64 0)))) :: []) (.r 16 (.pick (.t 11) (.t 15) (.c (.d (.bool false)))) :: .r 17 (.mv (.t 16)) :: gapp [18, 19] 17 true (.r 18 (.mv (.t 0)) :: .c 19 (.f 36) [.t 18] :: []) (.r 20 (.pick (.t 17) (.t 19) (.c (.d (.bool false)))) :: .r 2 (.mv (.t 20)) :: [])))))
  .ret))
theorem fit_kit_IsTag : fits Tryd.prog 22 Tryd.f22 sc_kit_IsTag [.t 2] 1 = true := by kernel_rfl

/-- interchange/kit.IsText -/
def sc_kit_IsText : SC :=
  (.seq (.reg [.r 2 (.mv (.c (.d (.bool false))))])
  (.seq (.reg (.r 3 (.mv (.t 0)) :: .r 4 (.lenT (.t 3)) :: .r 5 (.bin .leq (.t 4) (.c (.d (.int .i64 1000)))) :: .r 6 (.mv (.t 5)) :: gapp [7, 8] 6 true (.r 7 (.mv (.t 0)) :: .c 8 (.f 47) [.t 7, .c (.d (.int .u8 32)), .c (.d (.int .u8 126))] :: []) (.r 9 (.pick (.t 6) (.t 8) (.c (.d (.bool false)))) :: .r 2 (.mv (.t 9)) :: [])))
  .ret))
theorem fit_kit_IsText : fits Tryd.prog 80 Tryd.f80 sc_kit_IsText [.t 2] 1 = true := by kernel_rfl

set_option maxRecDepth 100000 in
set_option maxHeartbeats 40000000 in
noncomputable def sims_G6_1_0 : (∀ (x0 : List UInt8), {m : Option (Bool) // ∀ r, m = some r → PureSpec Tryd.prog 22 [.str x0] (.bool r)}) × (∀ (x0 : List UInt8), {m : Option (Bool) // ∀ r, m = some r → PureSpec Tryd.prog 80 [.str x0] (.bool r)}) := by
  refine ⟨?g0, ?g1⟩
  case' g0 => (intro x0; apply Subtype.mk; intro r hm; apply pure_walk Tryd.func22 fit_kit_IsTag; unfold sc_kit_IsTag)
  case' g1 => (intro x0; apply Subtype.mk; intro r hm; apply pure_walk Tryd.func80 fit_kit_IsText; unfold sc_kit_IsText)
  all_goals (repeat' (first | with_reducible refine W_seq ?_ | with_reducible refine W_reg ?_ | with_reducible refine W_block ?_ | with_reducible refine W_skip ?_ | with_reducible refine W_ret ?_ | with_reducible refine W_exit ?_ | with_reducible refine O_nil ?_ | with_reducible refine K_seq ?_ | with_reducible refine K_seqE ?_ | with_reducible refine K_seqR ?_ | with_reducible refine K_block ?_ | with_reducible refine K_blockR ?_ | with_reducible refine K_blockE ?_ | ((with_reducible apply K_blockN); decide) | ((with_reducible apply O_sidxr hm); (iterate 2 (simp only [push_cast, seval]; rfl)); intro e hm) | ((with_reducible apply O_r); (simp only [push_cast, seval]; rfl); (first | exact trivial | omega)) | ((with_reducible apply O_and hm); (simp only [push_cast, seval]; rfl); rfl; intro v hm; rotate_left; intro v g hm) | ((with_reducible apply W_condT); (focus (simp only [push_cast, seval]; done))) | ((with_reducible apply W_condF); (focus (simp only [push_cast, seval]; done))) | ((with_reducible apply O_cF hm); (simp only [push_cast, seval]; rfl); (first | apply spec_strings_IndexByte _ _ | apply spec_kit_IsTagPart _ | apply spec_kit_InBytes _ _ _); (any_goals ((repeat' (first | rfl | (with_reducible first | apply f_optN | apply f_optS | apply f_some | apply f_tup | apply f_agg | apply f_ptr | apply f_fn | apply dv_slice | apply sv_d | apply f_cons | apply fold_nil | apply fold_cons | apply fold_app | apply f_rowI | apply f_rowY | apply f_rowS | apply f_rowB | apply f_rowL) | (with_reducible apply f_byte; decide))); done)); intro x hm) | ((with_reducible apply S_condB hm); (simp only [push_cast, seval]; rfl); intro hm; rotate_left; intro hm) | ((with_reducible apply K_endS hm); (focus (simp only [resOf, resL, RV.get, push_cast, seval]; rfl)); (focus ((repeat' (first | rfl | (with_reducible first | apply f_optN | apply f_optS | apply f_some | apply f_tup | apply f_agg | apply f_ptr | apply f_fn | apply dv_slice | apply sv_d | apply f_cons | apply fold_nil | apply fold_cons | apply fold_app | apply f_rowI | apply f_rowY | apply f_rowS | apply f_rowB | apply f_rowL) | (with_reducible apply f_byte; decide))); done))) | ((with_reducible apply K_bool hm); (simp only [push_cast, seval]; rfl))))
noncomputable def m_kit_IsTag (x0 : List UInt8) : Option (Bool) := (sims_G6_1_0.1 x0).1
theorem spec_kit_IsTag (x0 : List UInt8) : ∀ r, m_kit_IsTag x0 = some r → PureSpec Tryd.prog 22 [.str x0] (.bool r) := (sims_G6_1_0.1 x0).2
noncomputable def m_kit_IsText (x0 : List UInt8) : Option (Bool) := (sims_G6_1_0.2 x0).1
theorem spec_kit_IsText (x0 : List UInt8) : ∀ r, m_kit_IsText x0 = some r → PureSpec Tryd.prog 80 [.str x0] (.bool r) := (sims_G6_1_0.2 x0).2

/-- interchange/wire.textFault -/
def sc_wire_textFault : SC :=
  (.seq (.reg [.r 2 (.mv (.c (.d (.int .i64 0))))])
  (.seq (.seq (.reg [.r 3 (.mv (.t 0)),
     .r 4 (.lenT (.t 3)),
     .r 5 (.bin .gtr (.t 4) (.c (.d (.int .i64 1000))))])
  (.cond (.t 5)
    (.seq (.reg [.r 2 (.mv (.c (.d (.int .i64 2))))])
    .ret)
    .skip))
  (.seq (.seq (.reg [.r 6 (.mv (.t 0)),
     .c 7 (.f 80) [.t 6],
     .r 8 (.not (.t 7))])
  (.cond (.t 8)
    (.seq (.reg [.r 2 (.mv (.c (.d (.int .i64 3))))])
    .ret)
    .skip))
  (.seq (.reg [.r 2 (.mv (.c (.d (.int .i64 0))))])
  .ret))))
theorem fit_wire_textFault : fits Tryd.prog 68 Tryd.f68 sc_wire_textFault [.t 2] 1 = true := by kernel_rfl

set_option maxRecDepth 100000 in
set_option maxHeartbeats 40000000 in
noncomputable def sims_G6_2_0 : (∀ (x0 : List UInt8), {m : Option (Int) // ∀ r, m = some r → PureSpec Tryd.prog 68 [.str x0] (.int .i64 r)}) := by
  (intro x0; apply Subtype.mk; intro r hm; apply pure_walk Tryd.func68 fit_wire_textFault; unfold sc_wire_textFault)
  repeat' (first | with_reducible refine W_seq ?_ | with_reducible refine W_reg ?_ | with_reducible refine W_block ?_ | with_reducible refine W_skip ?_ | with_reducible refine W_ret ?_ | with_reducible refine W_exit ?_ | with_reducible refine O_nil ?_ | with_reducible refine K_seq ?_ | with_reducible refine K_seqE ?_ | with_reducible refine K_seqR ?_ | with_reducible refine K_block ?_ | with_reducible refine K_blockR ?_ | with_reducible refine K_blockE ?_ | ((with_reducible apply K_blockN); decide) | ((with_reducible apply O_r); (simp only [push_cast, seval]; rfl); (first | exact trivial | omega)) | ((with_reducible apply W_condT); (focus (simp only [push_cast, seval]; done))) | ((with_reducible apply W_condF); (focus (simp only [push_cast, seval]; done))) | ((with_reducible apply O_cF hm); (simp only [push_cast, seval]; rfl); (first | apply spec_kit_IsText _); (any_goals ((repeat' (first | rfl | (with_reducible first | apply f_optN | apply f_optS | apply f_some | apply f_tup | apply f_agg | apply f_ptr | apply f_fn | apply dv_slice | apply sv_d | apply f_cons | apply fold_nil | apply fold_cons | apply fold_app | apply f_rowI | apply f_rowY | apply f_rowS | apply f_rowB | apply f_rowL) | (with_reducible apply f_byte; decide))); done)); intro x hm) | ((with_reducible apply S_condB hm); (simp only [push_cast, seval]; rfl); intro hm; rotate_left; intro hm) | ((with_reducible apply K_endS hm); (focus (simp only [resOf, resL, RV.get, push_cast, seval]; rfl)); (focus ((repeat' (first | rfl | (with_reducible first | apply f_optN | apply f_optS | apply f_some | apply f_tup | apply f_agg | apply f_ptr | apply f_fn | apply dv_slice | apply sv_d | apply f_cons | apply fold_nil | apply fold_cons | apply fold_app | apply f_rowI | apply f_rowY | apply f_rowS | apply f_rowB | apply f_rowL) | (with_reducible apply f_byte; decide))); done))))
noncomputable def m_wire_textFault (x0 : List UInt8) : Option (Int) := (sims_G6_2_0 x0).1
theorem spec_wire_textFault (x0 : List UInt8) : ∀ r, m_wire_textFault x0 = some r → PureSpec Tryd.prog 68 [.str x0] (.int .i64 r) := (sims_G6_2_0 x0).2

def sc_wire_elementFault_L1 : SC :=
  (.seq (.reg [.r 32 (.bin .lss (.t 31) (.t 30))])
  (.seq (.cond (.t 32)
    .skip
    (.exit 2))
  (.seq (.block 3 (.seq (.reg [.r 33 (.idx 1 (.t 29) (.t 31)),
       .o 34 (.ld1 (.t 33)),
       .r 6 (.mv (.t 34))])
    (.seq (.reg [.r 35 (.mv (.t 6)),
       .c 36 (.f 68) [.t 35],
       .r 7 (.mv (.t 36))])
    (.seq (.reg [.r 37 (.mv (.t 7)),
       .r 38 (.bin .neq (.t 37) (.c (.d (.int .i64 0))))])
    (.cond (.t 38)
      (.seq (.reg [.r 39 (.mv (.t 7)),
         .r 2 (.mv (.t 39))])
      .ret)
      .skip)))))
  (.reg [.r 40 (.bin .add (.t 31) (.c (.d (.int .i64 1)))),
     .r 31 (.mv (.t 40))]))))
def sc_wire_elementFault_B1 : SC := .block 2 (.loop sc_wire_elementFault_L1)
def sc_wire_elementFault_L2 : SC :=
  (.seq (.reg [.r 20 (.bin .lss (.t 19) (.t 18))])
  (.seq (.cond (.t 20)
    .skip
    (.exit 0))
  (.seq (.block 1 (.seq (.reg [.r 21 (.idx 1 (.t 17) (.t 19)),
       .o 22 (.ld1 (.t 21)),
       .r 4 (.mv (.t 22))])
    (.seq (.seq (.reg [.r 23 (.mv (.t 4)),
       .r 24 (.len (.t 23)),
       .r 25 (.bin .eql (.t 24) (.c (.d (.int .i64 0))))])
    (.cond (.t 25)
      (.seq (.reg [.r 2 (.mv (.c (.d (.int .i64 9))))])
      .ret)
      .skip))
    (.seq (.seq (.reg [.r 26 (.mv (.t 4)),
       .r 27 (.len (.t 26)),
       .r 28 (.bin .gtr (.t 27) (.c (.d (.int .i64 20))))])
    (.cond (.t 28)
      (.seq (.reg [.r 2 (.mv (.c (.d (.int .i64 2))))])
      .ret)
      .skip))
    (.seq (.reg [.r 29 (.mv (.t 4)),
       .r 30 (.len (.t 29)),
       .r 31 (.mv (.c (.d (.int .i64 0))))])
    sc_wire_elementFault_B1)))))
  (.reg [.r 41 (.bin .add (.t 19) (.c (.d (.int .i64 1)))),
     .r 19 (.mv (.t 41))]))))
def sc_wire_elementFault_B2 : SC := .block 0 (.loop sc_wire_elementFault_L2)
/-- interchange/wire.elementFault -/
def sc_wire_elementFault : SC :=
  (.seq (.reg [.r 1 (.boxI (.t 0)),
     .r 2 (.mv (.c (.d (.int .i64 0))))])
  (.seq (.seq (.reg [.r 8 (.fld 0 (.t 1)),
     .o 9 (.ld1 (.t 8)),
     .r 10 (.len (.t 9)),
     .r 11 (.bin .eql (.t 10) (.c (.d (.int .i64 0))))])
  (.cond (.t 11)
    (.seq (.reg [.r 2 (.mv (.c (.d (.int .i64 9))))])
    .ret)
    .skip))
  (.seq (.seq (.reg [.r 12 (.fld 0 (.t 1)),
     .o 13 (.ld1 (.t 12)),
     .r 14 (.len (.t 13)),
     .r 15 (.bin .gtr (.t 14) (.c (.d (.int .i64 20))))])
  (.cond (.t 15)
    (.seq (.reg [.r 2 (.mv (.c (.d (.int .i64 2))))])
    .ret)
    .skip))
  (.seq (.seq (.reg [.r 16 (.fld 0 (.t 1)),
     .o 17 (.ld1 (.t 16)),
     .r 18 (.len (.t 17)),
     .r 19 (.mv (.c (.d (.int .i64 0))))])
  sc_wire_elementFault_B2)
  (.seq (.reg [.r 2 (.mv (.c (.d (.int .i64 0))))])
  .ret)))))
theorem fit_wire_elementFault : fits Tryd.prog 50 Tryd.f50 sc_wire_elementFault [.t 2] 1 = true := by kernel_rfl

set_option maxRecDepth 100000 in
set_option maxHeartbeats 40000000 in
noncomputable def sims_G6_3_0 : (∀ (x0 : Tapi_Element), {m : Option (Int) // ∀ r, m = some r → PureSpec Tryd.prog 50 [.agg (rTapi_Element x0)] (.int .i64 r)}) := by
  (intro x0; apply Subtype.mk; intro r hm; apply pure_walk Tryd.func50 fit_wire_elementFault; unfold sc_wire_elementFault)
  repeat' (first | with_reducible refine W_seq ?_ | with_reducible refine W_reg ?_ | with_reducible refine W_block ?_ | with_reducible refine W_skip ?_ | with_reducible refine W_ret ?_ | with_reducible refine W_exit ?_ | with_reducible refine O_nil ?_ | with_reducible refine K_seq ?_ | with_reducible refine K_seqE ?_ | with_reducible refine K_seqR ?_ | with_reducible refine K_block ?_ | with_reducible refine K_blockR ?_ | with_reducible refine K_blockE ?_ | ((with_reducible apply K_blockN); decide) | with_reducible refine O_o2r ?_ | ((with_reducible apply O_idxr hm); (iterate 2 (simp only [push_cast, seval]; rfl)); (intro _; rfl); intro e hm) | ((with_reducible apply O_idxVr hm); (iterate 3 (simp only [push_cast, seval]; rfl)); intro e hm) | ((with_reducible apply O_r); (simp only [push_cast, seval]; rfl); (first | exact trivial | omega)) | ((with_reducible apply O_ldV1r hm); (iterate 2 (simp only [push_cast, seval]; rfl)); (intro _; rfl); intro e hm) | ((with_reducible apply O_strr hm); (iterate 2 (simp only [push_cast, seval]; rfl)); intro hm) | ((with_reducible apply W_condT); (focus (simp only [push_cast, seval]; done))) | ((with_reducible apply W_condF); (focus (simp only [push_cast, seval]; done))) | ((with_reducible apply O_cF hm); (simp only [push_cast, seval]; rfl); (first | apply spec_wire_textFault _); (any_goals ((repeat' (first | rfl | (with_reducible first | apply fT_Tapi_Element | apply f_optN | apply f_optS | apply f_some | apply f_tup | apply f_agg | apply f_ptr | apply f_fn | apply dv_slice | apply sv_d | apply f_cons | apply fold_nil | apply fold_cons | apply fold_app | apply f_rowI | apply f_rowY | apply f_rowS | apply f_rowB | apply f_rowL) | (with_reducible apply f_byte; decide))); done)); intro x hm) | ((with_reducible apply S_condB hm); (simp only [push_cast, seval]; rfl); intro hm; rotate_left; intro hm) | ((with_reducible apply K_endS hm); (focus (simp only [resOf, resL, RV.get, push_cast, seval]; rfl)); (focus ((repeat' (first | rfl | (with_reducible first | apply fT_Tapi_Element | apply f_optN | apply f_optS | apply f_some | apply f_tup | apply f_agg | apply f_ptr | apply f_fn | apply dv_slice | apply sv_d | apply f_cons | apply fold_nil | apply fold_cons | apply fold_app | apply f_rowI | apply f_rowY | apply f_rowS | apply f_rowB | apply f_rowL) | (with_reducible apply f_byte; decide))); done))) | ((with_reducible apply K_leave hm); intro r hm) | ((with_reducible apply K_leaveR hm); intro r hm) | ((apply S_loopY (b := 2) (X := sc_wire_elementFault_B1) (x := sc_wire_elementFault_L1) rfl (fun (c : SV × SV × SV × SV × SV) (s : Int) => st [(17, c.1), (18, c.2.1), (19, c.2.2.1), (29, c.2.2.2.1), (30, c.2.2.2.2), (31, .d (.int .i64 s))] []) (c := (_, _, _, _, _)) (s0 := _) hm); (focus (first | (dsimp only; done) | (dsimp only; rfl) | rfl)); (with_reducible refine Then.mk ?_ ?_)) | ((apply S_loopY (b := 0) (X := sc_wire_elementFault_B2) (x := sc_wire_elementFault_L2) rfl (fun (c : SV × SV) (s : Int) => st [(17, c.1), (18, c.2), (19, .d (.int .i64 s))] []) (c := (_, _)) (s0 := _) hm); (focus (first | (dsimp only; done) | (dsimp only; rfl) | rfl)); (with_reducible refine Then.mk ?_ ?_)) | ((apply K_next (s' := _) hm); (focus (first | (dsimp only; done) | (dsimp only; rfl) | rfl))) | ((apply K_brk (s' := _) hm); (focus (first | (dsimp only; done) | (dsimp only; rfl) | rfl))) | (((with_reducible apply K_brkN hm); (focus decide); intro r hm)) | (((with_reducible apply K_brkR hm); intro r hm)) | (((with_reducible apply LoopB.of); (focus (first | (dsimp only; done) | (dsimp only; rfl) | rfl)); (focus ((intro _; repeat' (first | with_reducible exact impC_end | with_reducible exact impC_endF | with_reducible refine impC_seq ?_ | with_reducible refine impC_block ?_ | ((with_reducible refine impC_rnd ?_); intro _) | ((with_reducible refine impC_brk ?_); intro _))))); (intro s o hm; first | unfold sc_wire_elementFault_L1 | unfold sc_wire_elementFault_L2); rotate_left; intro s hm)) | (((apply imp_stT; (repeat' (first | with_reducible exact keepT_nil | with_reducible exact keepC_nil | with_reducible apply keepT_cons | with_reducible apply keepC_cons | ((with_reducible apply svle_eq); (focus (first | (simp only [push_cast, seval]; rfl) | rfl)); (focus ((repeat' (first | rfl | (with_reducible first | apply fT_Tapi_Element | apply f_optN | apply f_optS | apply f_some | apply f_tup | apply f_agg | apply f_ptr | apply f_fn | apply dv_slice | apply sv_d | apply f_cons | apply fold_nil | apply fold_cons | apply fold_app | apply f_rowI | apply f_rowY | apply f_rowS | apply f_rowB | apply f_rowL) | (with_reducible apply f_byte; decide))); done))) | ((with_reducible apply svle_td); (focus (first | (simp only [push_cast, seval]; rfl) | rfl)); (focus (first | (simp only [push_cast, seval]; rfl) | rfl)); (focus ((repeat' (first | rfl | (with_reducible first | apply fT_Tapi_Element | apply f_optN | apply f_optS | apply f_some | apply f_tup | apply f_agg | apply f_ptr | apply f_fn | apply dv_slice | apply sv_d | apply f_cons | apply fold_nil | apply fold_cons | apply fold_app | apply f_rowI | apply f_rowY | apply f_rowS | apply f_rowB | apply f_rowL) | (with_reducible apply f_byte; decide))); done))) | ((with_reducible apply chle_eq); (focus (first | (simp only [push_cast, seval]; rfl) | rfl)); (first | with_reducible exact chle_rfl rfl | with_reducible exact chle_map0 | with_reducible apply chle_vec | with_reducible apply chle_box)) | (with_reducible first | apply cT_Tapi_Element | apply r_shS | apply r_shI | apply r_rflO | apply r_oneO | apply r_appO | apply r_nilO | apply c_ownN | apply c_ownL | apply vc_rfl | apply vc_nil | apply vc_cons | apply r_rfl | apply r_rows | apply r_nil | apply r_app | apply r_cons | apply c_rowI | apply c_rowY | apply c_rowS | apply c_rowB | apply c_rowL))); done))))
noncomputable def m_wire_elementFault (x0 : Tapi_Element) : Option (Int) := (sims_G6_3_0 x0).1
theorem spec_wire_elementFault (x0 : Tapi_Element) : ∀ r, m_wire_elementFault x0 = some r → PureSpec Tryd.prog 50 [.agg (rTapi_Element x0)] (.int .i64 r) := (sims_G6_3_0 x0).2

def sc_wire_CheckSegments_L1 : SC :=
  (.seq (.reg [.r 29 (.bin .lss (.t 28) (.t 27))])
  (.seq (.cond (.t 29)
    .skip
    (.exit 2))
  (.seq (.block 3 (.seq (.reg [.r 30 (.idx 1 (.t 26) (.t 28)),
       .o 31 (.ldA 1 (.t 30)),
       .w 6 (.boxM (.c (.agg [.nils]))),
       .w 0 (.st 1 (.t 6) (.t 31))])
    (.seq (.reg [.o 32 (.ldA 1 (.t 6)),
       .c 33 (.f 50) [.t 32],
       .r 7 (.mv (.t 33))])
    (.seq (.reg [.r 34 (.mv (.t 7)),
       .r 35 (.bin .neq (.t 34) (.c (.d (.int .i64 0))))])
    (.cond (.t 35)
      (.seq (.reg [.r 36 (.mv (.t 7)),
         .r 2 (.mv (.t 36))])
      .ret)
      .skip)))))
  (.reg [.r 37 (.bin .add (.t 28) (.c (.d (.int .i64 1)))),
     .r 28 (.mv (.t 37))]))))
def sc_wire_CheckSegments_B1 : SC := .block 2 (.loop sc_wire_CheckSegments_L1)
def sc_wire_CheckSegments_L2 : SC :=
  (.seq (.reg [.r 14 (.bin .lss (.t 13) (.t 12))])
  (.seq (.cond (.t 14)
    .skip
    (.exit 0))
  (.seq (.block 1 (.seq (.reg [.r 15 (.idx 2 (.t 11) (.t 13)),
       .o 16 (.ldA 2 (.t 15)),
       .w 4 (.boxM (.c (.agg [.d (.str []), .nils]))),
       .w 0 (.st 2 (.t 4) (.t 16))])
    (.seq (.seq (.reg [.r 17 (.fld 0 (.t 4)),
       .o 18 (.ld1 (.t 17)),
       .c 19 (.f 22) [.t 18],
       .r 20 (.not (.t 19))])
    (.cond (.t 20)
      (.seq (.reg [.r 2 (.mv (.c (.d (.int .i64 5))))])
      .ret)
      .skip))
    (.seq (.seq (.reg [.r 21 (.fld 1 (.t 4)),
       .o 22 (.ld1 (.t 21)),
       .r 23 (.len (.t 22)),
       .r 24 (.bin .gtr (.t 23) (.c (.d (.int .i64 50))))])
    (.cond (.t 24)
      (.seq (.reg [.r 2 (.mv (.c (.d (.int .i64 2))))])
      .ret)
      .skip))
    (.seq (.reg [.r 25 (.fld 1 (.t 4)),
       .o 26 (.ld1 (.t 25)),
       .r 27 (.len (.t 26)),
       .r 28 (.mv (.c (.d (.int .i64 0))))])
    sc_wire_CheckSegments_B1)))))
  (.reg [.r 38 (.bin .add (.t 13) (.c (.d (.int .i64 1)))),
     .r 13 (.mv (.t 38))]))))
def sc_wire_CheckSegments_B2 : SC := .block 0 (.loop sc_wire_CheckSegments_L2)
/-- interchange/wire.CheckSegments -/
def sc_wire_CheckSegments : SC :=
  (.seq (.reg [.r 2 (.mv (.c (.d (.int .i64 0))))])
  (.seq (.seq (.reg [.r 8 (.mv (.t 0)),
     .r 9 (.len (.t 8)),
     .r 10 (.bin .gtr (.t 9) (.c (.d (.int .i64 2000))))])
  (.cond (.t 10)
    (.seq (.reg [.r 2 (.mv (.c (.d (.int .i64 2))))])
    .ret)
    .skip))
  (.seq (.seq (.reg [.r 11 (.mv (.t 0)),
     .r 12 (.len (.t 11)),
     .r 13 (.mv (.c (.d (.int .i64 0))))])
  sc_wire_CheckSegments_B2)
  (.seq (.reg [.r 2 (.mv (.c (.d (.int .i64 0))))])
  .ret))))
theorem fit_wire_CheckSegments : fits Tryd.prog 40 Tryd.f40 sc_wire_CheckSegments [.t 2] 1 = true := by kernel_rfl

set_option maxRecDepth 100000 in
set_option maxHeartbeats 40000000 in
noncomputable def sims_G6_4_0 : (∀ (x0 : List Tapi_Segment), {m : Option (Int) // ∀ r, m = some r → PureSpec Tryd.prog 40 [.slice (List.map rTapi_Segment x0)] (.int .i64 r)}) := by
  (intro x0; apply Subtype.mk; intro r hm; apply pure_walk Tryd.func40 fit_wire_CheckSegments; unfold sc_wire_CheckSegments)
  repeat' (first | with_reducible refine W_seq ?_ | with_reducible refine W_reg ?_ | with_reducible refine W_block ?_ | with_reducible refine W_skip ?_ | with_reducible refine W_ret ?_ | with_reducible refine W_exit ?_ | with_reducible refine O_nil ?_ | with_reducible refine K_seq ?_ | with_reducible refine K_seqE ?_ | with_reducible refine K_seqR ?_ | with_reducible refine K_block ?_ | with_reducible refine K_blockR ?_ | with_reducible refine K_blockE ?_ | ((with_reducible apply K_blockN); decide) | with_reducible refine O_o2r ?_ | ((with_reducible apply O_idxr hm); (iterate 2 (simp only [push_cast, seval]; rfl)); (intro _; rfl); intro e hm) | ((with_reducible apply O_idxVr hm); (iterate 3 (simp only [push_cast, seval]; rfl)); intro e hm) | ((with_reducible apply O_r); (simp only [push_cast, seval]; rfl); (first | exact trivial | omega)) | ((with_reducible apply O_ldV1r hm); (iterate 2 (simp only [push_cast, seval]; rfl)); (intro _; rfl); intro e hm) | ((with_reducible apply O_ldAVr hm); (iterate 2 (simp only [push_cast, seval]; rfl)); (intro _; rfl); intro e hm) | ((with_reducible apply O_strr hm); (iterate 2 (simp only [push_cast, seval]; rfl)); intro hm) | ((with_reducible apply W_condT); (focus (simp only [push_cast, seval]; done))) | ((with_reducible apply W_condF); (focus (simp only [push_cast, seval]; done))) | ((with_reducible apply O_cF hm); (simp only [push_cast, seval]; rfl); (first | apply spec_kit_IsTag _ | apply spec_wire_elementFault _); (any_goals ((repeat' (first | rfl | (with_reducible first | apply fT_Tapi_Segment | apply fT_Tapi_Element | apply f_optN | apply f_optS | apply f_some | apply f_tup | apply f_agg | apply f_ptr | apply f_fn | apply dv_slice | apply sv_d | apply f_cons | apply fold_nil | apply fold_cons | apply fold_app | apply f_rowI | apply f_rowY | apply f_rowS | apply f_rowB | apply f_rowL) | (with_reducible apply f_byte; decide))); done)); intro x hm) | ((with_reducible apply O_w); (simp only [push_cast, seval]; rfl); (first | exact trivial | omega)) | ((with_reducible apply O_stVA hm); (iterate 4 (simp only [push_cast, seval]; rfl)); (focus ((repeat' (first | rfl | (with_reducible first | apply fT_Tapi_Segment | apply fT_Tapi_Element | apply f_optN | apply f_optS | apply f_some | apply f_tup | apply f_agg | apply f_ptr | apply f_fn | apply dv_slice | apply sv_d | apply f_cons | apply fold_nil | apply fold_cons | apply fold_app | apply f_rowI | apply f_rowY | apply f_rowS | apply f_rowB | apply f_rowL) | (with_reducible apply f_byte; decide))); done)); decide; (intro _; rfl); intro e hm) | ((with_reducible apply S_condB hm); (simp only [push_cast, seval]; rfl); intro hm; rotate_left; intro hm) | ((with_reducible apply K_endS hm); (focus (simp only [resOf, resL, RV.get, push_cast, seval]; rfl)); (focus ((repeat' (first | rfl | (with_reducible first | apply fT_Tapi_Segment | apply fT_Tapi_Element | apply f_optN | apply f_optS | apply f_some | apply f_tup | apply f_agg | apply f_ptr | apply f_fn | apply dv_slice | apply sv_d | apply f_cons | apply fold_nil | apply fold_cons | apply fold_app | apply f_rowI | apply f_rowY | apply f_rowS | apply f_rowB | apply f_rowL) | (with_reducible apply f_byte; decide))); done))) | ((with_reducible apply K_leave hm); intro r hm) | ((with_reducible apply K_leaveR hm); intro r hm) | ((apply S_loopY (b := 2) (X := sc_wire_CheckSegments_B1) (x := sc_wire_CheckSegments_L1) rfl (fun (c : SV × SV × SV × SV × SV) (s : Int) => st [(11, c.1), (12, c.2.1), (13, c.2.2.1), (26, c.2.2.2.1), (27, c.2.2.2.2), (28, .d (.int .i64 s))] []) (c := (_, _, _, _, _)) (s0 := _) hm); (focus (first | (dsimp only; done) | (dsimp only; rfl) | rfl)); (with_reducible refine Then.mk ?_ ?_)) | ((apply S_loopY (b := 0) (X := sc_wire_CheckSegments_B2) (x := sc_wire_CheckSegments_L2) rfl (fun (c : SV × SV) (s : Int) => st [(11, c.1), (12, c.2), (13, .d (.int .i64 s))] []) (c := (_, _)) (s0 := _) hm); (focus (first | (dsimp only; done) | (dsimp only; rfl) | rfl)); (with_reducible refine Then.mk ?_ ?_)) | ((apply K_next (s' := _) hm); (focus (first | (dsimp only; done) | (dsimp only; rfl) | rfl))) | ((apply K_brk (s' := _) hm); (focus (first | (dsimp only; done) | (dsimp only; rfl) | rfl))) | (((with_reducible apply K_brkN hm); (focus decide); intro r hm)) | (((with_reducible apply K_brkR hm); intro r hm)) | (((with_reducible apply LoopB.of); (focus (first | (dsimp only; done) | (dsimp only; rfl) | rfl)); (focus ((intro _; repeat' (first | with_reducible exact impC_end | with_reducible exact impC_endF | with_reducible refine impC_seq ?_ | with_reducible refine impC_block ?_ | ((with_reducible refine impC_rnd ?_); intro _) | ((with_reducible refine impC_brk ?_); intro _))))); (intro s o hm; first | unfold sc_wire_CheckSegments_L1 | unfold sc_wire_CheckSegments_L2); rotate_left; intro s hm)) | (((apply imp_stT; (repeat' (first | with_reducible exact keepT_nil | with_reducible exact keepC_nil | with_reducible apply keepT_cons | with_reducible apply keepC_cons | ((with_reducible apply svle_eq); (focus (first | (simp only [push_cast, seval]; rfl) | rfl)); (focus ((repeat' (first | rfl | (with_reducible first | apply fT_Tapi_Segment | apply fT_Tapi_Element | apply f_optN | apply f_optS | apply f_some | apply f_tup | apply f_agg | apply f_ptr | apply f_fn | apply dv_slice | apply sv_d | apply f_cons | apply fold_nil | apply fold_cons | apply fold_app | apply f_rowI | apply f_rowY | apply f_rowS | apply f_rowB | apply f_rowL) | (with_reducible apply f_byte; decide))); done))) | ((with_reducible apply svle_td); (focus (first | (simp only [push_cast, seval]; rfl) | rfl)); (focus (first | (simp only [push_cast, seval]; rfl) | rfl)); (focus ((repeat' (first | rfl | (with_reducible first | apply fT_Tapi_Segment | apply fT_Tapi_Element | apply f_optN | apply f_optS | apply f_some | apply f_tup | apply f_agg | apply f_ptr | apply f_fn | apply dv_slice | apply sv_d | apply f_cons | apply fold_nil | apply fold_cons | apply fold_app | apply f_rowI | apply f_rowY | apply f_rowS | apply f_rowB | apply f_rowL) | (with_reducible apply f_byte; decide))); done))) | ((with_reducible apply chle_eq); (focus (first | (simp only [push_cast, seval]; rfl) | rfl)); (first | with_reducible exact chle_rfl rfl | with_reducible exact chle_map0 | with_reducible apply chle_vec | with_reducible apply chle_box)) | (with_reducible first | apply cT_Tapi_Segment | apply cT_Tapi_Element | apply r_shS | apply r_shI | apply r_rflO | apply r_oneO | apply r_appO | apply r_nilO | apply c_ownN | apply c_ownL | apply vc_rfl | apply vc_nil | apply vc_cons | apply r_rfl | apply r_rows | apply r_nil | apply r_app | apply r_cons | apply c_rowI | apply c_rowY | apply c_rowS | apply c_rowB | apply c_rowL))); done))))
noncomputable def m_wire_CheckSegments (x0 : List Tapi_Segment) : Option (Int) := (sims_G6_4_0 x0).1
theorem spec_wire_CheckSegments (x0 : List Tapi_Segment) : ∀ r, m_wire_CheckSegments x0 = some r → PureSpec Tryd.prog 40 [.slice (List.map rTapi_Segment x0)] (.int .i64 r) := (sims_G6_4_0 x0).2

def sc_interchange_scheme_pathed_list_L1 : SC :=
  (.seq (.reg [.r 13 (.bin .lss (.t 12) (.t 11))])
  (.seq (.cond (.t 13)
    .skip
    (.exit 0))
  (.seq (.block 1 (.seq (.reg [.r 14 (.idx 4 (.t 10) (.t 12)),
       .o 15 (.ldA 4 (.t 14)),
       .w 8 (.boxM (.c (.agg [.d (.str []), .d (.str []), .nils, .nils]))),
       .w 0 (.st 4 (.t 8) (.t 15))])
    (.seq (.reg [.r 16 (.mv (.t 0)),
       .o 17 (.ldA 4 (.t 8)),
       .r 18 (.mv (.t 2)),
       .p (some 19) (.f 26) [.t 16, .t 17, .t 18],
       .r 9 (.mv (.t 19))])
    (.seq (.reg [.r 20 (.mv (.t 9)),
       .r 21 (.bin .neq (.t 20) (.c (.d (.int .i64 0))))])
    (.cond (.t 21)
      (.seq (.reg [.r 22 (.mv (.t 9)),
         .r 6 (.mv (.t 22))])
      .ret)
      .skip)))))
  (.reg [.r 23 (.bin .add (.t 12) (.c (.d (.int .i64 1)))),
     .r 12 (.mv (.t 23))]))))
def sc_interchange_scheme_pathed_list_B1 : SC := .block 0 (.loop sc_interchange_scheme_pathed_list_L1)
/-- (*interchange/scheme.pathed).list -/
def sc_interchange_scheme_pathed_list : SC :=
  (.seq (.reg [.r 6 (.mv (.c (.d (.int .i64 0))))])
  (.seq (.seq (.reg [.r 10 (.mv (.t 1)),
     .r 11 (.len (.t 10)),
     .r 12 (.mv (.c (.d (.int .i64 0))))])
  sc_interchange_scheme_pathed_list_B1)
  (.seq (.reg [.r 6 (.mv (.c (.d (.int .i64 0))))])
  .ret)))
theorem fit_interchange_scheme_pathed_list : fits Tryd.prog 15 Tryd.f15 sc_interchange_scheme_pathed_list [.t 6] 3 = true := by kernel_rfl

/-- (*interchange/scheme.pathed).branch -/
def sc_interchange_scheme_pathed_branch : SC :=
  (.seq (.reg [.r 4 (.boxI (.t 1)),
     .r 6 (.mv (.c (.d (.int .i64 0))))])
  (.seq (.seq (.reg [.r 7 (.fld 0 (.t 4)),
     .o 8 (.ld1 (.t 7)),
     .r 9 (.bin .eql (.t 8) (.c (.d (.str []))))])
  (.cond (.t 9)
    (.reg [.r 10 (.mv (.t 0)),
       .r 11 (.nilc (.t 10)),
       .r 12 (.fld 0 (.t 11)),
       .o 13 (.ld1 (.t 12)),
       .r 14 (.bin .add (.t 13) (.c (.d (.int .i64 1)))),
       .r 15 (.nilc (.t 10)),
       .r 16 (.fld 0 (.t 15)),
       .w 0 (.st 1 (.t 16) (.t 14))])
    .skip))
  (.seq (.block 0 (.seq (.reg (.r 18 (.mv (.t 0)) :: .r 19 (.nilc (.t 18)) :: .r 20 (.fld 0 (.t 19)) :: .o 21 (.ld1 (.t 20)) :: .r 22 (.bin .gtr (.t 21) (.c (.d (.int .i64 2000)))) :: .r 23 (.mv (.t 22)) :: gapp [24, 25] 23 false (.r 24 (.mv (.t 2)) :: .r 25 (.bin .gtr (.t 24) (.c (.d (.int .i64 6)))) :: []) (.r 26 (.pick (.t 23) (.c (.d (.bool true))) (.t 25)) :: .r 17 (.mv (.t 26)) :: [])))
    (.cond (.t 17)
      (.seq (.reg [.r 6 (.mv (.c (.d (.int .i64 2))))])
      .ret)
      (.seq (.reg (.r 28 (.fld 0 (.t 4)) :: .o 29 (.ld1 (.t 28)) :: .r 30 (.bin .neq (.t 29) (.c (.d (.str [])))) :: .r 31 (.mv (.t 30)) :: gapp [32, 33, 34, 35] 31 true (.r 32 (.fld 0 (.t 4)) :: .r 33 (.ld1 (.t 32)) :: .c 34 (.f 29) [.t 33] :: .r 35 (.not (.t 34)) :: []) (.r 36 (.pick (.t 31) (.t 35) (.c (.d (.bool false)))) :: .r 27 (.mv (.t 36)) :: [])))
      (.cond (.t 27)
        (.seq (.reg [.r 6 (.mv (.c (.d (.int .i64 5))))])
        .ret)
        (.seq (.reg (.r 38 (.fld 0 (.t 4)) :: .o 39 (.ld1 (.t 38)) :: .r 40 (.bin .eql (.t 39) (.c (.d (.str [])))) :: .r 41 (.mv (.t 40)) :: gapp [42, 43, 44, 45] 41 true (.r 42 (.fld 3 (.t 4)) :: .r 43 (.ld1 (.t 42)) :: .r 44 (.len (.t 43)) :: .r 45 (.bin .gtr (.t 44) (.c (.d (.int .i64 0)))) :: []) (.r 46 (.pick (.t 41) (.t 45) (.c (.d (.bool false)))) :: .r 37 (.mv (.t 46)) :: [])))
        (.cond (.t 37)
          (.seq (.reg [.r 6 (.mv (.c (.d (.int .i64 3))))])
          .ret)
          (.seq (.reg (.r 48 (.fld 0 (.t 4)) :: .o 49 (.ld1 (.t 48)) :: .r 50 (.bin .neq (.t 49) (.c (.d (.str [])))) :: .r 51 (.mv (.t 50)) :: gapp [52, 53, 54, 55, 56, 57, 58, 59, 60, 61, 62, 63, 64, 65, 66, 67, 68, 69] 51 true (.r 52 (.fld 1 (.t 4)) :: .r 53 (.ldA 2 (.t 52)) :: .c 54 (.f 39) [.t 53] :: .r 55 (.not (.t 54)) :: .r 56 (.mv (.t 55)) :: gapp [57, 58, 59, 60] 56 false (.r 57 (.fld 3 (.t 4)) :: .r 58 (.ld1 (.t 57)) :: .r 59 (.len (.t 58)) :: .r 60 (.bin .eql (.t 59) (.c (.d (.int .i64 0)))) :: []) (.r 61 (.pick (.t 56) (.c (.d (.bool true))) (.t 60)) :: .r 62 (.mv (.t 61)) :: gapp [63, 64, 65, 66, 67, 68] 62 false (.r 63 (.fld 3 (.t 4)) :: .r 64 (.ld1 (.t 63)) :: .r 65 (.idx 4 (.t 64) (.c (.d (.int .i64 0)))) :: .r 66 (.fld 0 (.t 65)) :: .r 67 (.ld1 (.t 66)) :: .r 68 (.bin .neq (.t 67) (.c (.d (.str [])))) :: []) (.r 69 (.pick (.t 62) (.c (.d (.bool true))) (.t 68)) :: []))) (.r 70 (.pick (.t 51) (.t 69) (.c (.d (.bool false)))) :: .r 47 (.mv (.t 70)) :: [])))
          (.cond (.t 47)
            (.seq (.reg [.r 6 (.mv (.c (.d (.int .i64 3))))])
            .ret)
            (.seq (.reg [.r 72 (.fld 0 (.t 4)),
               .o 73 (.ld1 (.t 72)),
               .r 74 (.bin .eql (.t 73) (.c (.d (.str [])))),
               .r 71 (.mv (.t 74))])
            (.cond (.t 71)
              (.seq (.reg [.r 75 (.fld 1 (.t 4)),
                 .o 76 (.ldA 2 (.t 75)),
                 .r 77 (.bslice 2 [.t 76]),
                 .c 78 (.f 40) [.t 77],
                 .r 6 (.mv (.t 78))])
              .ret)
              .skip)))))))))))
  (.seq (.reg [.r 79 (.mv (.t 0)),
     .r 80 (.fld 3 (.t 4)),
     .o 81 (.ld1 (.t 80)),
     .r 82 (.mv (.t 2)),
     .r 83 (.bin .add (.t 82) (.c (.d (.int .i64 1)))),
     .p (some 84) (.f 15) [.t 79, .t 81, .t 83],
     .r 6 (.mv (.t 84))])
  .ret))))
theorem fit_interchange_scheme_pathed_branch : fits Tryd.prog 26 Tryd.f26 sc_interchange_scheme_pathed_branch [.t 6] 3 = true := by kernel_rfl

set_option maxRecDepth 100000 in
set_option maxHeartbeats 40000000 in
noncomputable def step_G6_5_0 : ((∀ (x0 : Tscheme_pathed) (x1 : List Tapi_Branch) (x2 : Int), {m : Option ((Int) × Tscheme_pathed) // ∀ r, m = some r → FSpec Tryd.prog 15 (.own (.pt [.sh]) (.ptr (rTscheme_pathed x0)) :: List.map SV.d ([.slice (List.map rTapi_Branch x1), .int .i64 x2] : List DV)) (.d (.int .i64 r.1)) (.own (.pt [.sh]) (.ptr (rTscheme_pathed r.2)) :: List.map SV.d ([.slice (List.map rTapi_Branch x1), .int .i64 x2] : List DV))}) × (∀ (x0 : Tscheme_pathed) (x1 : Tapi_Branch) (x2 : Int), {m : Option ((Int) × Tscheme_pathed) // ∀ r, m = some r → FSpec Tryd.prog 26 (.own (.pt [.sh]) (.ptr (rTscheme_pathed x0)) :: List.map SV.d ([.agg (rTapi_Branch x1), .int .i64 x2] : List DV)) (.d (.int .i64 r.1)) (.own (.pt [.sh]) (.ptr (rTscheme_pathed r.2)) :: List.map SV.d ([.agg (rTapi_Branch x1), .int .i64 x2] : List DV))})) → ((∀ (x0 : Tscheme_pathed) (x1 : List Tapi_Branch) (x2 : Int), {m : Option ((Int) × Tscheme_pathed) // ∀ r, m = some r → FSpec Tryd.prog 15 (.own (.pt [.sh]) (.ptr (rTscheme_pathed x0)) :: List.map SV.d ([.slice (List.map rTapi_Branch x1), .int .i64 x2] : List DV)) (.d (.int .i64 r.1)) (.own (.pt [.sh]) (.ptr (rTscheme_pathed r.2)) :: List.map SV.d ([.slice (List.map rTapi_Branch x1), .int .i64 x2] : List DV))}) × (∀ (x0 : Tscheme_pathed) (x1 : Tapi_Branch) (x2 : Int), {m : Option ((Int) × Tscheme_pathed) // ∀ r, m = some r → FSpec Tryd.prog 26 (.own (.pt [.sh]) (.ptr (rTscheme_pathed x0)) :: List.map SV.d ([.agg (rTapi_Branch x1), .int .i64 x2] : List DV)) (.d (.int .i64 r.1)) (.own (.pt [.sh]) (.ptr (rTscheme_pathed r.2)) :: List.map SV.d ([.agg (rTapi_Branch x1), .int .i64 x2] : List DV))})) := by
  intro ih
  have spec_interchange_scheme_pathed_list : ∀ (x0 : Tscheme_pathed) (x1 : List Tapi_Branch) (x2 : Int), ∀ r, (ih.1 x0 x1 x2).1 = some r → FSpec Tryd.prog 15 (.own (.pt [.sh]) (.ptr (rTscheme_pathed x0)) :: List.map SV.d ([.slice (List.map rTapi_Branch x1), .int .i64 x2] : List DV)) (.d (.int .i64 r.1)) (.own (.pt [.sh]) (.ptr (rTscheme_pathed r.2)) :: List.map SV.d ([.slice (List.map rTapi_Branch x1), .int .i64 x2] : List DV)) := fun x0 x1 x2 => (ih.1 x0 x1 x2).2
  have spec_interchange_scheme_pathed_branch : ∀ (x0 : Tscheme_pathed) (x1 : Tapi_Branch) (x2 : Int), ∀ r, (ih.2 x0 x1 x2).1 = some r → FSpec Tryd.prog 26 (.own (.pt [.sh]) (.ptr (rTscheme_pathed x0)) :: List.map SV.d ([.agg (rTapi_Branch x1), .int .i64 x2] : List DV)) (.d (.int .i64 r.1)) (.own (.pt [.sh]) (.ptr (rTscheme_pathed r.2)) :: List.map SV.d ([.agg (rTapi_Branch x1), .int .i64 x2] : List DV)) := fun x0 x1 x2 => (ih.2 x0 x1 x2).2
  refine ⟨?g0, ?g1⟩
  case' g0 => (intro x0 x1 x2; apply Subtype.mk; intro r hm; apply fspec_walk1 (N := 24) (k := 3) Tryd.func15 fit_interchange_scheme_pathed_list (by kernel_rfl) rfl rfl (by decide); unfold sc_interchange_scheme_pathed_list)
  case' g1 => (intro x0 x1 x2; apply Subtype.mk; intro r hm; apply fspec_walk1 (N := 85) (k := 3) Tryd.func26 fit_interchange_scheme_pathed_branch (by kernel_rfl) rfl rfl (by decide); unfold sc_interchange_scheme_pathed_branch)
  all_goals (repeat' (first | with_reducible refine W_seq ?_ | with_reducible refine W_reg ?_ | with_reducible refine W_block ?_ | with_reducible refine W_skip ?_ | with_reducible refine W_ret ?_ | with_reducible refine W_exit ?_ | with_reducible refine O_nil ?_ | with_reducible refine K_seq ?_ | with_reducible refine K_seqE ?_ | with_reducible refine K_seqR ?_ | with_reducible refine K_block ?_ | with_reducible refine K_blockR ?_ | with_reducible refine K_blockE ?_ | ((with_reducible apply K_blockN); decide) | with_reducible refine O_o2r ?_ | ((with_reducible apply O_idxr hm); (iterate 2 (simp only [push_cast, seval]; rfl)); (intro _; rfl); intro e hm) | ((with_reducible apply O_idxVr hm); (iterate 3 (simp only [push_cast, seval]; rfl)); intro e hm) | ((with_reducible apply O_nilcO hm); (simp only [push_cast, seval]; rfl); intro a hm) | ((with_reducible apply O_idxLr hm (row := rTapi_Segment)); (iterate 2 (simp only [push_cast, seval]; rfl)); (focus ((repeat' (first | rfl | (with_reducible first | apply fT_Tapi_Segment | apply fT_Tapi_Element | apply fT_Tscheme_pathed | apply fT_Tapi_Branch | apply f_optN | apply f_optS | apply f_some | apply f_tup | apply f_agg | apply f_ptr | apply f_fn | apply dv_slice | apply sv_d | apply f_cons | apply fold_nil | apply fold_cons | apply fold_app | apply f_rowI | apply f_rowY | apply f_rowS | apply f_rowB | apply f_rowL) | (with_reducible apply f_byte; decide))); done)); (simp only [push_cast, seval]; rfl); (intro _; rfl); intro e hm) | ((with_reducible apply O_r); (simp only [push_cast, seval]; rfl); (first | exact trivial | omega)) | ((with_reducible apply O_ldV1r hm); (iterate 2 (simp only [push_cast, seval]; rfl)); (intro _; rfl); intro e hm) | ((with_reducible apply O_ldAVr hm); (iterate 2 (simp only [push_cast, seval]; rfl)); (intro _; rfl); intro e hm) | ((with_reducible apply O_strr hm); (iterate 2 (simp only [push_cast, seval]; rfl)); intro hm) | ((with_reducible apply O_and hm); (simp only [push_cast, seval]; rfl); rfl; intro v hm; rotate_left; intro v g hm) | ((with_reducible apply O_or hm); (simp only [push_cast, seval]; rfl); rfl; intro v hm; rotate_left; intro v g hm) | ((with_reducible apply W_condT); (focus (simp only [push_cast, seval]; done))) | ((with_reducible apply W_condF); (focus (simp only [push_cast, seval]; done))) | ((with_reducible apply O_cF hm); (simp only [push_cast, seval]; rfl); (first | apply spec_interchange_scheme_pathed_branch _ _ _ | apply spec_kit_IsName _ | apply spec_scheme_isZero _ | apply spec_wire_CheckSegments _ | apply spec_interchange_scheme_pathed_list _ _ _); (any_goals ((repeat' (first | rfl | (with_reducible first | apply fT_Tapi_Segment | apply fT_Tapi_Element | apply fT_Tscheme_pathed | apply fT_Tapi_Branch | apply f_optN | apply f_optS | apply f_some | apply f_tup | apply f_agg | apply f_ptr | apply f_fn | apply dv_slice | apply sv_d | apply f_cons | apply fold_nil | apply fold_cons | apply fold_app | apply f_rowI | apply f_rowY | apply f_rowS | apply f_rowB | apply f_rowL) | (with_reducible apply f_byte; decide))); done)); intro x hm) | ((with_reducible apply O_w); (simp only [push_cast, seval]; rfl); (first | exact trivial | omega)) | ((with_reducible apply O_stVA hm); (iterate 4 (simp only [push_cast, seval]; rfl)); (focus ((repeat' (first | rfl | (with_reducible first | apply fT_Tapi_Segment | apply fT_Tapi_Element | apply fT_Tscheme_pathed | apply fT_Tapi_Branch | apply f_optN | apply f_optS | apply f_some | apply f_tup | apply f_agg | apply f_ptr | apply f_fn | apply dv_slice | apply sv_d | apply f_cons | apply fold_nil | apply fold_cons | apply fold_app | apply f_rowI | apply f_rowY | apply f_rowS | apply f_rowB | apply f_rowL) | (with_reducible apply f_byte; decide))); done)); decide; (intro _; rfl); intro e hm) | ((with_reducible apply O_stV hm); (iterate 3 (simp only [push_cast, seval]; rfl)); rfl; (intro _; rfl); rfl; (focus (intro a; simp only [push_cast, seval]; rfl)); (focus (intro a; (repeat' (first | rfl | with_reducible apply eT_Tapi_Segment | with_reducible apply eT_Tapi_Element | with_reducible apply eT_Tscheme_pathed | with_reducible apply eT_Tapi_Branch)); done)); intro e hm) | ((with_reducible apply S_condB hm); (simp only [push_cast, seval]; rfl); intro hm; rotate_left; intro hm) | ((with_reducible apply K_endS hm); (focus (simp only [resOf, resL, RV.get, push_cast, seval]; rfl)); (focus ((repeat' (first | rfl | (with_reducible first | apply fT_Tapi_Segment | apply fT_Tapi_Element | apply fT_Tscheme_pathed | apply fT_Tapi_Branch | apply f_optN | apply f_optS | apply f_some | apply f_tup | apply f_agg | apply f_ptr | apply f_fn | apply dv_slice | apply sv_d | apply f_cons | apply fold_nil | apply fold_cons | apply fold_app | apply f_rowI | apply f_rowY | apply f_rowS | apply f_rowB | apply f_rowL) | (with_reducible apply f_byte; decide))); done))) | ((with_reducible apply K_bool hm); (simp only [push_cast, seval]; rfl)) | ((with_reducible apply K_leave hm); intro r hm) | ((with_reducible apply K_leaveR hm); intro r hm) | ((apply S_loopY (b := 0) (X := sc_interchange_scheme_pathed_list_B1) (x := sc_interchange_scheme_pathed_list_L1) rfl (fun (c : SV × SV × SV × SV × SV) (s : Int × Int) => st [(0, .ref 0 0), (2, c.1), (10, c.2.1), (11, c.2.2.1), (12, .d (.int .i64 s.2)), (24, .ref 0 0), (25, c.2.2.2.1), (26, c.2.2.2.2)] [(0, .box (bT_Tscheme_pathed s.1))]) (c := (_, _, _, _, _)) (s0 := (_, _)) hm); (focus (first | (dsimp only; done) | (dsimp only; rfl) | rfl)); (with_reducible refine Then.mk ?_ ?_)) | ((apply K_next (s' := (_, _)) hm); (focus (first | (dsimp only; done) | (dsimp only; rfl) | rfl))) | ((apply K_brk (s' := (_, _)) hm); (focus (first | (dsimp only; done) | (dsimp only; rfl) | rfl))) | (((with_reducible apply K_brkN hm); (focus decide); intro r hm)) | (((with_reducible apply K_brkR hm); intro r hm)) | (((with_reducible apply O_pM hm (id := 0) (ms := [.sh])); (focus (exact Imp.refl _)); (focus (simp only [push_cast, seval]; (try rfl); done)); (focus (simp only [push_cast, seval]; (try rfl); done)); (focus (simp only [push_cast, seval]; (try rfl); done)); (focus ((repeat' (first | (with_reducible first | apply oT_Tscheme_pathed | apply cT_Tapi_Segment | apply cT_Tapi_Element | apply cT_Tscheme_pathed | apply cT_Tapi_Branch | apply r_shS | apply r_shI | apply r_rflO | apply r_oneO | apply r_appO | apply r_nilO | apply c_ownN | apply c_ownL | apply vc_rfl | apply vc_nil | apply vc_cons | apply r_rfl | apply r_rows | apply r_nil | apply r_app | apply r_cons | apply c_rowI | apply c_rowY | apply c_rowS | apply c_rowB | apply c_rowL) | ((with_reducible apply svle_eq); (focus (first | (simp only [push_cast, seval]; rfl) | rfl)); (focus ((repeat' (first | rfl | (with_reducible first | apply fT_Tapi_Segment | apply fT_Tapi_Element | apply fT_Tscheme_pathed | apply fT_Tapi_Branch | apply f_optN | apply f_optS | apply f_some | apply f_tup | apply f_agg | apply f_ptr | apply f_fn | apply dv_slice | apply sv_d | apply f_cons | apply fold_nil | apply fold_cons | apply fold_app | apply f_rowI | apply f_rowY | apply f_rowS | apply f_rowB | apply f_rowL) | (with_reducible apply f_byte; decide))); done))) | ((with_reducible apply svle_td); (focus (first | (simp only [push_cast, seval]; rfl) | rfl)); (focus (first | (simp only [push_cast, seval]; rfl) | rfl)); (focus ((repeat' (first | rfl | (with_reducible first | apply fT_Tapi_Segment | apply fT_Tapi_Element | apply fT_Tscheme_pathed | apply fT_Tapi_Branch | apply f_optN | apply f_optS | apply f_some | apply f_tup | apply f_agg | apply f_ptr | apply f_fn | apply dv_slice | apply sv_d | apply f_cons | apply fold_nil | apply fold_cons | apply fold_app | apply f_rowI | apply f_rowY | apply f_rowS | apply f_rowB | apply f_rowL) | (with_reducible apply f_byte; decide))); done))) | ((with_reducible apply cle_own); (focus rfl); (focus ((repeat' (first | rfl | (with_reducible first | apply fT_Tapi_Segment | apply fT_Tapi_Element | apply fT_Tscheme_pathed | apply fT_Tapi_Branch | apply f_optN | apply f_optS | apply f_some | apply f_tup | apply f_agg | apply f_ptr | apply f_fn | apply dv_slice | apply sv_d | apply f_cons | apply fold_nil | apply fold_cons | apply fold_app | apply f_rowI | apply f_rowY | apply f_rowS | apply f_rowB | apply f_rowL) | (with_reducible apply f_byte; decide))); done))) | ((with_reducible apply cle_nil); (focus rfl)))); done)); (focus rfl); (first | apply spec_interchange_scheme_pathed_branch _ _ _ | apply spec_kit_IsName _ | apply spec_scheme_isZero _ | apply spec_wire_CheckSegments _ | apply spec_interchange_scheme_pathed_list _ _ _); (any_goals (focus ((repeat' (first | rfl | (with_reducible first | apply fT_Tapi_Segment | apply fT_Tapi_Element | apply fT_Tscheme_pathed | apply fT_Tapi_Branch | apply f_optN | apply f_optS | apply f_some | apply f_tup | apply f_agg | apply f_ptr | apply f_fn | apply dv_slice | apply sv_d | apply f_cons | apply fold_nil | apply fold_cons | apply fold_app | apply f_rowI | apply f_rowY | apply f_rowS | apply f_rowB | apply f_rowL) | (with_reducible apply f_byte; decide))); done))); (focus (intro _; exact ⟨rfl, rfl, rfl⟩)); intro y hm)) | (((with_reducible apply K_endP hm (ms := [.sh])); (focus (exact Imp.refl _)); (focus (simp only [push_cast, seval]; (try rfl); done)); (focus ((repeat' (first | (with_reducible first | apply oT_Tscheme_pathed | apply cT_Tapi_Segment | apply cT_Tapi_Element | apply cT_Tscheme_pathed | apply cT_Tapi_Branch | apply r_shS | apply r_shI | apply r_rflO | apply r_oneO | apply r_appO | apply r_nilO | apply c_ownN | apply c_ownL | apply vc_rfl | apply vc_nil | apply vc_cons | apply r_rfl | apply r_rows | apply r_nil | apply r_app | apply r_cons | apply c_rowI | apply c_rowY | apply c_rowS | apply c_rowB | apply c_rowL) | ((with_reducible apply svle_eq); (focus (first | (simp only [push_cast, seval]; rfl) | rfl)); (focus ((repeat' (first | rfl | (with_reducible first | apply fT_Tapi_Segment | apply fT_Tapi_Element | apply fT_Tscheme_pathed | apply fT_Tapi_Branch | apply f_optN | apply f_optS | apply f_some | apply f_tup | apply f_agg | apply f_ptr | apply f_fn | apply dv_slice | apply sv_d | apply f_cons | apply fold_nil | apply fold_cons | apply fold_app | apply f_rowI | apply f_rowY | apply f_rowS | apply f_rowB | apply f_rowL) | (with_reducible apply f_byte; decide))); done))) | ((with_reducible apply svle_td); (focus (first | (simp only [push_cast, seval]; rfl) | rfl)); (focus (first | (simp only [push_cast, seval]; rfl) | rfl)); (focus ((repeat' (first | rfl | (with_reducible first | apply fT_Tapi_Segment | apply fT_Tapi_Element | apply fT_Tscheme_pathed | apply fT_Tapi_Branch | apply f_optN | apply f_optS | apply f_some | apply f_tup | apply f_agg | apply f_ptr | apply f_fn | apply dv_slice | apply sv_d | apply f_cons | apply fold_nil | apply fold_cons | apply fold_app | apply f_rowI | apply f_rowY | apply f_rowS | apply f_rowB | apply f_rowL) | (with_reducible apply f_byte; decide))); done))) | ((with_reducible apply cle_own); (focus rfl); (focus ((repeat' (first | rfl | (with_reducible first | apply fT_Tapi_Segment | apply fT_Tapi_Element | apply fT_Tscheme_pathed | apply fT_Tapi_Branch | apply f_optN | apply f_optS | apply f_some | apply f_tup | apply f_agg | apply f_ptr | apply f_fn | apply dv_slice | apply sv_d | apply f_cons | apply fold_nil | apply fold_cons | apply fold_app | apply f_rowI | apply f_rowY | apply f_rowS | apply f_rowB | apply f_rowL) | (with_reducible apply f_byte; decide))); done))) | ((with_reducible apply cle_nil); (focus rfl)))); done)); (focus (intro _; rfl)); (focus (simp only [push_cast, seval]; (try rfl); done)); (focus (simp only [push_cast, seval]; (try rfl); done)); (focus (simp only [push_cast, seval]; (try rfl); done)); (focus (simp only [push_cast, seval]; (try rfl); done)); (focus (first | exact he_0 | (apply he_1; (focus ((repeat' (first | rfl | (with_reducible first | apply fT_Tapi_Segment | apply fT_Tapi_Element | apply fT_Tscheme_pathed | apply fT_Tapi_Branch | apply f_optN | apply f_optS | apply f_some | apply f_tup | apply f_agg | apply f_ptr | apply f_fn | apply dv_slice | apply sv_d | apply f_cons | apply fold_nil | apply fold_cons | apply fold_app | apply f_rowI | apply f_rowY | apply f_rowS | apply f_rowB | apply f_rowL) | (with_reducible apply f_byte; decide))); done))) | (apply he_n; (focus ((repeat' (first | rfl | (with_reducible first | apply fT_Tapi_Segment | apply fT_Tapi_Element | apply fT_Tscheme_pathed | apply fT_Tapi_Branch | apply f_optN | apply f_optS | apply f_some | apply f_tup | apply f_agg | apply f_ptr | apply f_fn | apply dv_slice | apply sv_d | apply f_cons | apply fold_nil | apply fold_cons | apply fold_app | apply f_rowI | apply f_rowY | apply f_rowS | apply f_rowB | apply f_rowL) | (with_reducible apply f_byte; decide))); done))))))) | ((with_reducible apply K_neverF hm)) | (((with_reducible apply LoopB.of); (focus (first | (dsimp only; done) | (dsimp only; rfl) | rfl)); (focus ((intro _; repeat' (first | with_reducible exact impC_end | with_reducible exact impC_endF | with_reducible refine impC_seq ?_ | with_reducible refine impC_block ?_ | ((with_reducible refine impC_rnd ?_); intro _) | ((with_reducible refine impC_brk ?_); intro _))))); (intro s o hm; first | unfold sc_interchange_scheme_pathed_list_L1); rotate_left; intro s hm)) | (((apply imp_stT; (repeat' (first | with_reducible exact keepT_nil | with_reducible exact keepC_nil | with_reducible apply keepT_cons | with_reducible apply keepC_cons | ((with_reducible apply svle_eq); (focus (first | (simp only [push_cast, seval]; rfl) | rfl)); (focus ((repeat' (first | rfl | (with_reducible first | apply fT_Tapi_Segment | apply fT_Tapi_Element | apply fT_Tscheme_pathed | apply fT_Tapi_Branch | apply f_optN | apply f_optS | apply f_some | apply f_tup | apply f_agg | apply f_ptr | apply f_fn | apply dv_slice | apply sv_d | apply f_cons | apply fold_nil | apply fold_cons | apply fold_app | apply f_rowI | apply f_rowY | apply f_rowS | apply f_rowB | apply f_rowL) | (with_reducible apply f_byte; decide))); done))) | ((with_reducible apply svle_td); (focus (first | (simp only [push_cast, seval]; rfl) | rfl)); (focus (first | (simp only [push_cast, seval]; rfl) | rfl)); (focus ((repeat' (first | rfl | (with_reducible first | apply fT_Tapi_Segment | apply fT_Tapi_Element | apply fT_Tscheme_pathed | apply fT_Tapi_Branch | apply f_optN | apply f_optS | apply f_some | apply f_tup | apply f_agg | apply f_ptr | apply f_fn | apply dv_slice | apply sv_d | apply f_cons | apply fold_nil | apply fold_cons | apply fold_app | apply f_rowI | apply f_rowY | apply f_rowS | apply f_rowB | apply f_rowL) | (with_reducible apply f_byte; decide))); done))) | ((with_reducible apply chle_eq); (focus (first | (simp only [push_cast, seval]; rfl) | rfl)); (first | with_reducible exact chle_rfl rfl | with_reducible exact chle_map0 | with_reducible apply chle_vec | with_reducible apply chle_box)) | (with_reducible first | apply cT_Tapi_Segment | apply cT_Tapi_Element | apply cT_Tscheme_pathed | apply cT_Tapi_Branch | apply bcT_Tscheme_pathed | apply r_shS | apply r_shI | apply r_rflO | apply r_oneO | apply r_appO | apply r_nilO | apply c_ownN | apply c_ownL | apply vc_rfl | apply vc_nil | apply vc_cons | apply r_rfl | apply r_rows | apply r_nil | apply r_app | apply r_cons | apply c_rowI | apply c_rowY | apply c_rowS | apply c_rowB | apply c_rowL))); done)))))
noncomputable def sims_G6_5_0 (fu : Nat) : (∀ (x0 : Tscheme_pathed) (x1 : List Tapi_Branch) (x2 : Int), {m : Option ((Int) × Tscheme_pathed) // ∀ r, m = some r → FSpec Tryd.prog 15 (.own (.pt [.sh]) (.ptr (rTscheme_pathed x0)) :: List.map SV.d ([.slice (List.map rTapi_Branch x1), .int .i64 x2] : List DV)) (.d (.int .i64 r.1)) (.own (.pt [.sh]) (.ptr (rTscheme_pathed r.2)) :: List.map SV.d ([.slice (List.map rTapi_Branch x1), .int .i64 x2] : List DV))}) × (∀ (x0 : Tscheme_pathed) (x1 : Tapi_Branch) (x2 : Int), {m : Option ((Int) × Tscheme_pathed) // ∀ r, m = some r → FSpec Tryd.prog 26 (.own (.pt [.sh]) (.ptr (rTscheme_pathed x0)) :: List.map SV.d ([.agg (rTapi_Branch x1), .int .i64 x2] : List DV)) (.d (.int .i64 r.1)) (.own (.pt [.sh]) (.ptr (rTscheme_pathed r.2)) :: List.map SV.d ([.agg (rTapi_Branch x1), .int .i64 x2] : List DV))}) := Nat.rec ⟨(fun x0 x1 x2 => ⟨none, fun r h => by cases h⟩), (fun x0 x1 x2 => ⟨none, fun r h => by cases h⟩)⟩ (fun _ ih => step_G6_5_0 ih) fu
noncomputable def m_interchange_scheme_pathed_list (fu : Nat) (x0 : Tscheme_pathed) (x1 : List Tapi_Branch) (x2 : Int) : Option ((Int) × Tscheme_pathed) := ((sims_G6_5_0 fu).1 x0 x1 x2).1
theorem m_interchange_scheme_pathed_list_fold (fu : Nat) (x0 : Tscheme_pathed) (x1 : List Tapi_Branch) (x2 : Int) : ((sims_G6_5_0 fu).1 x0 x1 x2).1 = m_interchange_scheme_pathed_list fu x0 x1 x2 := rfl
theorem m_interchange_scheme_pathed_list_succ (fu : Nat) (x0 : Tscheme_pathed) (x1 : List Tapi_Branch) (x2 : Int) : m_interchange_scheme_pathed_list (fu + 1) x0 x1 x2 = ((step_G6_5_0 (sims_G6_5_0 fu)).1 x0 x1 x2).1 := rfl
theorem spec_interchange_scheme_pathed_list (fu : Nat) (x0 : Tscheme_pathed) (x1 : List Tapi_Branch) (x2 : Int) : ∀ r, m_interchange_scheme_pathed_list fu x0 x1 x2 = some r → FSpec Tryd.prog 15 (.own (.pt [.sh]) (.ptr (rTscheme_pathed x0)) :: List.map SV.d ([.slice (List.map rTapi_Branch x1), .int .i64 x2] : List DV)) (.d (.int .i64 r.1)) (.own (.pt [.sh]) (.ptr (rTscheme_pathed r.2)) :: List.map SV.d ([.slice (List.map rTapi_Branch x1), .int .i64 x2] : List DV)) := ((sims_G6_5_0 fu).1 x0 x1 x2).2
noncomputable def m_interchange_scheme_pathed_branch (fu : Nat) (x0 : Tscheme_pathed) (x1 : Tapi_Branch) (x2 : Int) : Option ((Int) × Tscheme_pathed) := ((sims_G6_5_0 fu).2 x0 x1 x2).1
theorem m_interchange_scheme_pathed_branch_fold (fu : Nat) (x0 : Tscheme_pathed) (x1 : Tapi_Branch) (x2 : Int) : ((sims_G6_5_0 fu).2 x0 x1 x2).1 = m_interchange_scheme_pathed_branch fu x0 x1 x2 := rfl
theorem m_interchange_scheme_pathed_branch_succ (fu : Nat) (x0 : Tscheme_pathed) (x1 : Tapi_Branch) (x2 : Int) : m_interchange_scheme_pathed_branch (fu + 1) x0 x1 x2 = ((step_G6_5_0 (sims_G6_5_0 fu)).2 x0 x1 x2).1 := rfl
theorem spec_interchange_scheme_pathed_branch (fu : Nat) (x0 : Tscheme_pathed) (x1 : Tapi_Branch) (x2 : Int) : ∀ r, m_interchange_scheme_pathed_branch fu x0 x1 x2 = some r → FSpec Tryd.prog 26 (.own (.pt [.sh]) (.ptr (rTscheme_pathed x0)) :: List.map SV.d ([.agg (rTapi_Branch x1), .int .i64 x2] : List DV)) (.d (.int .i64 r.1)) (.own (.pt [.sh]) (.ptr (rTscheme_pathed r.2)) :: List.map SV.d ([.agg (rTapi_Branch x1), .int .i64 x2] : List DV)) := ((sims_G6_5_0 fu).2 x0 x1 x2).2

/-- interchange/scheme.CheckTree -/
def sc_scheme_CheckTree : SC :=
  (.seq (.reg [.r 2 (.mv (.c (.d (.int .i64 0))))])
  (.seq (.reg [.r 3 (.build [.d (.int .i64 0)] []),
     .w 4 (.boxM (.t 3)),
     .r 5 (.mv (.t 0)),
     .p (some 6) (.f 15) [.t 4, .t 5, .c (.d (.int .i64 0))],
     .r 2 (.mv (.t 6))])
  .ret))
theorem fit_scheme_CheckTree : fits Tryd.prog 8 Tryd.f8 sc_scheme_CheckTree [.t 2] 1 = true := by kernel_rfl

set_option maxRecDepth 100000 in
set_option maxHeartbeats 40000000 in
noncomputable def sims_G6_6_0 : (∀ (x0 : List Tapi_Branch), {m : Option (Int) // ∀ r, m = some r → PureSpec Tryd.prog 8 [.slice (List.map rTapi_Branch x0)] (.int .i64 r)}) := by
  (intro x0; apply Subtype.mk; intro r hm; apply pure_walk Tryd.func8 fit_scheme_CheckTree; unfold sc_scheme_CheckTree)
  repeat' (first | with_reducible refine W_seq ?_ | with_reducible refine W_reg ?_ | with_reducible refine W_block ?_ | with_reducible refine W_skip ?_ | with_reducible refine W_ret ?_ | with_reducible refine W_exit ?_ | with_reducible refine O_nil ?_ | with_reducible refine K_seq ?_ | with_reducible refine K_seqE ?_ | with_reducible refine K_seqR ?_ | with_reducible refine K_block ?_ | with_reducible refine K_blockR ?_ | with_reducible refine K_blockE ?_ | ((with_reducible apply K_blockN); decide) | ((with_reducible apply O_r); (simp only [push_cast, seval]; rfl); (first | exact trivial | omega)) | ((with_reducible apply W_condT); (focus (simp only [push_cast, seval]; done))) | ((with_reducible apply W_condF); (focus (simp only [push_cast, seval]; done))) | ((with_reducible apply O_cF hm); (simp only [push_cast, seval]; rfl); (first | apply spec_interchange_scheme_pathed_list FU _ _ _); (any_goals ((repeat' (first | rfl | (with_reducible first | apply fT_Tapi_Segment | apply fT_Tapi_Element | apply fT_Tscheme_pathed | apply fT_Tapi_Branch | apply f_optN | apply f_optS | apply f_some | apply f_tup | apply f_agg | apply f_ptr | apply f_fn | apply dv_slice | apply sv_d | apply f_cons | apply fold_nil | apply fold_cons | apply fold_app | apply f_rowI | apply f_rowY | apply f_rowS | apply f_rowB | apply f_rowL) | (with_reducible apply f_byte; decide))); done)); intro x hm) | ((with_reducible apply O_w); (simp only [push_cast, seval]; rfl); (first | exact trivial | omega)) | ((with_reducible apply S_condB hm); (simp only [push_cast, seval]; rfl); intro hm; rotate_left; intro hm) | ((with_reducible apply K_endS hm); (focus (simp only [resOf, resL, RV.get, push_cast, seval]; rfl)); (focus ((repeat' (first | rfl | (with_reducible first | apply fT_Tapi_Segment | apply fT_Tapi_Element | apply fT_Tscheme_pathed | apply fT_Tapi_Branch | apply f_optN | apply f_optS | apply f_some | apply f_tup | apply f_agg | apply f_ptr | apply f_fn | apply dv_slice | apply sv_d | apply f_cons | apply fold_nil | apply fold_cons | apply fold_app | apply f_rowI | apply f_rowY | apply f_rowS | apply f_rowB | apply f_rowL) | (with_reducible apply f_byte; decide))); done))) | (((with_reducible apply O_pM hm (id := 4) (ms := [.sh])); (focus (exact Imp.refl _)); (focus (simp only [push_cast, seval]; (try rfl); done)); (focus (simp only [push_cast, seval]; (try rfl); done)); (focus (simp only [push_cast, seval]; (try rfl); done)); (focus ((repeat' (first | (with_reducible first | apply oT_Tscheme_pathed | apply cT_Tapi_Segment | apply cT_Tapi_Element | apply cT_Tscheme_pathed | apply cT_Tapi_Branch | apply r_shS | apply r_shI | apply r_rflO | apply r_oneO | apply r_appO | apply r_nilO | apply c_ownN | apply c_ownL | apply vc_rfl | apply vc_nil | apply vc_cons | apply r_rfl | apply r_rows | apply r_nil | apply r_app | apply r_cons | apply c_rowI | apply c_rowY | apply c_rowS | apply c_rowB | apply c_rowL) | ((with_reducible apply svle_eq); (focus (first | (simp only [push_cast, seval]; rfl) | rfl)); (focus ((repeat' (first | rfl | (with_reducible first | apply fT_Tapi_Segment | apply fT_Tapi_Element | apply fT_Tscheme_pathed | apply fT_Tapi_Branch | apply f_optN | apply f_optS | apply f_some | apply f_tup | apply f_agg | apply f_ptr | apply f_fn | apply dv_slice | apply sv_d | apply f_cons | apply fold_nil | apply fold_cons | apply fold_app | apply f_rowI | apply f_rowY | apply f_rowS | apply f_rowB | apply f_rowL) | (with_reducible apply f_byte; decide))); done))) | ((with_reducible apply svle_td); (focus (first | (simp only [push_cast, seval]; rfl) | rfl)); (focus (first | (simp only [push_cast, seval]; rfl) | rfl)); (focus ((repeat' (first | rfl | (with_reducible first | apply fT_Tapi_Segment | apply fT_Tapi_Element | apply fT_Tscheme_pathed | apply fT_Tapi_Branch | apply f_optN | apply f_optS | apply f_some | apply f_tup | apply f_agg | apply f_ptr | apply f_fn | apply dv_slice | apply sv_d | apply f_cons | apply fold_nil | apply fold_cons | apply fold_app | apply f_rowI | apply f_rowY | apply f_rowS | apply f_rowB | apply f_rowL) | (with_reducible apply f_byte; decide))); done))) | ((with_reducible apply cle_own); (focus rfl); (focus ((repeat' (first | rfl | (with_reducible first | apply fT_Tapi_Segment | apply fT_Tapi_Element | apply fT_Tscheme_pathed | apply fT_Tapi_Branch | apply f_optN | apply f_optS | apply f_some | apply f_tup | apply f_agg | apply f_ptr | apply f_fn | apply dv_slice | apply sv_d | apply f_cons | apply fold_nil | apply fold_cons | apply fold_app | apply f_rowI | apply f_rowY | apply f_rowS | apply f_rowB | apply f_rowL) | (with_reducible apply f_byte; decide))); done))) | ((with_reducible apply cle_nil); (focus rfl)))); done)); (focus rfl); (first | apply spec_interchange_scheme_pathed_list FU _ _ _); (any_goals (focus ((repeat' (first | rfl | (with_reducible first | apply fT_Tapi_Segment | apply fT_Tapi_Element | apply fT_Tscheme_pathed | apply fT_Tapi_Branch | apply f_optN | apply f_optS | apply f_some | apply f_tup | apply f_agg | apply f_ptr | apply f_fn | apply dv_slice | apply sv_d | apply f_cons | apply fold_nil | apply fold_cons | apply fold_app | apply f_rowI | apply f_rowY | apply f_rowS | apply f_rowB | apply f_rowL) | (with_reducible apply f_byte; decide))); done))); (focus (intro _; exact ⟨rfl, rfl, rfl⟩)); intro y hm)))
noncomputable def m_scheme_CheckTree (x0 : List Tapi_Branch) : Option (Int) := (sims_G6_6_0 x0).1
theorem spec_scheme_CheckTree (x0 : List Tapi_Branch) : ∀ r, m_scheme_CheckTree x0 = some r → PureSpec Tryd.prog 8 [.slice (List.map rTapi_Branch x0)] (.int .i64 r) := (sims_G6_6_0 x0).2

end Go.Proofs.YtdkncdkdbddgoaaDoor

/-
  A row that a call has made, as data.
-/
namespace Go.Proofs.YtdkncdkdbddgoaaDoor
set_option linter.unusedSimpArgs false
set_option linter.unusedVariables false
open Go.RowKit Go.Lib
theorem dR_toDVs : ∀ (l : List DV), SV.toDVs (dR l) = some l
  | [] => rfl
  | d :: l => by
    have ih := dR_toDVs l
    simp only [dR, List.map_cons, SV.toDVs, SV.toDV] at ih ⊢
    rw [ih]
end Go.Proofs.YtdkncdkdbddgoaaDoor

/-
  Calls whose result is an owned slice.
-/
namespace Go.Proofs.YtdkncdkdbddgoaaDoor
set_option linter.unusedSimpArgs false
set_option linter.unusedVariables false
open Go.RowKit Go.Lib

theorem dR_flat : ∀ (rows : List (List DV)), (rows.map dR).flatten = dR rows.flatten
  | [] => rfl
  | r :: rows => by
    have ih := dR_flat rows
    simp only [dR, List.map_cons, List.flatten_cons, List.map_append] at ih ⊢
    rw [ih]
/-- A contract whose result is an owned slice, out of what the kit says of the call. -/
theorem own_spec {P : Program} {f : FuncId} {args : List DV} {rows : List (List DV)} {size e : Nat} (hcall : callable P f = true) (hall : ∀ r ∈ rows, r.length = size)
    (h : ∀ (w : World) (M : Nat → Prop) (vs : List Value), (∀ b, M b → b < w.heap.size) → RepL w M args vs → Calls P f vs.toArray w fun ev w' => ∃ v news, ev = .returned v ∧ w'.ownsRow w.heap.size e size v rows.length news ∧ RepL w M rows.flatten news ∧ (∀ u ∈ news, u.oneCell' = true) ∧ Below w.heap.size w w') :
    FSpec P f (args.map .d) (.own (.sl e (List.replicate size .sh)) (.slice rows)) (args.map .d) := by
  refine ⟨hcall, fun w M vs F hM hF hn hv _ _ => ?_⟩
  have hno : SV.noOwns (args.map SV.d) = true := toDVs_noOwns _ _ (dR_toDVs args)
  obtain ⟨hS, rfl⟩ := RepGL.to_S _ _ _ hno hv
  have hR := RepSL.toDVs _ _ _ hS (dR_toDVs args)
  refine (h w _ vs (fun b hb => by rcases hb with hb | hb; exact (hM b hb).1; cases hb) hR).mono ?_
  rintro ev w' ⟨v, news, rfl, ho, hnews, h1, hB⟩
  have hfresh : ∀ b ∈ blkL v, w.heap.size ≤ b ∧ b < w'.heap.size := by
    intro b hb
    rcases ho.2 with ⟨rfl, _⟩ | ⟨g, cap, cur, rfl, hb2, hg, _⟩
    · simp [blkL, blk] at hb
    · simp [blkL, blk] at hb
      subst hb
      exact ⟨hb2, (Array.getElem?_eq_some_iff.1 hg).1⟩
  have hext : Ext w (fun b => M b ∨ b ∈ ([] : List Nat)) w' (fun b => M b ∨ b ∈ [] ++ blkL v) := ⟨hB.size, fun b hb hm => ⟨hB.block b hb, fun hm' => by
    rcases hm' with hm' | hm'
    · exact hm (.inl hm')
    · have := (hfresh b (by simpa using hm')).1; omega⟩⟩
  refine ⟨v, [], blkL v, rfl, RepGL.of_S _ _ (RepSL.of_d (hR.ext hext)), ?_, ?_, ?_, Chg.of_below hB⟩
  · unfold RepG RepO
    refine ⟨rows, news, [], rfl, ⟨by simpa using ho.1, ?_⟩, h1, by simpa using hall, ?_, by simp⟩
    · rcases ho.2 with hn | ⟨g, cap, cur, hv, hb, rest⟩
      · exact .inl hn
      · simp only [List.length_replicate]
        exact .inr ⟨g, cap, cur, hv, Nat.zero_le _, rest⟩
    · refine (ownRows_iff (κ := κ0) (by simpa using hall)).1 ?_
      have e1 : rows.map (ownR (List.replicate size .sh)) = rows.map dR := List.map_congr_left fun r hr => by
        have := ownR_sh (row := fun _ : Unit => r) (n := size) (fun _ => hall r hr) [()]
        simpa [vrow] using this
      rw [e1, dR_flat]
      exact RepGL.of_S _ _ (RepSL.of_d (hnews.ext hext))
  · cases hv' : blk v with
    | none => simp [blkL, hv']
    | some b => simp [blkL, hv']
  · intro b hb
    have := hfresh b (by simpa using hb)
    exact ⟨.inr this.1, this.2⟩

end Go.Proofs.YtdkncdkdbddgoaaDoor

/-
  slices.Clone at any element type, as a contract over data values: what comes back is owned.
-/
namespace Go.Proofs.YtdkncdkdbddgoaaDoor
set_option linter.unusedSimpArgs false
set_option linter.unusedVariables false
open Go.RowKit Go.Shelf Go.Lib
variable {P : Program} {ρ : Ren}

set_option maxHeartbeats 2000000 in
set_option maxRecDepth 100000 in
/-- A slice of length 0 that is not nil, whatever its address. -/
theorem clone_zero (L : SlLaysE0.n41 P ρ) (i0 : TypeInfo) (z : Value) (size bytes : Nat) (hi : P.info? (ρ.t 23) = some i0) (hz0 : i0.zero = some z) (hz1 : i0.size = size) (hz2 : i0.bytes = bytes) (hzs : z.cells.size = size) (hsz : 0 < size)
    (z23 : ∀ w, (Go.sizeOf (ρ.t 23)).run P w = .ok size w) (p : Addr) (c : Nat) (w : World) :
    Calls P (ρ.f 41) #[.slice (some p) 0 c] w fun e w' => ∃ v', e = .returned v' ∧ w'.ownsRow w.heap.size (ρ.t 23) size v' 0 [] ∧ Below w.heap.size w w' := by
  have mixed := L.mixed; have t4 := L.t4; have a4 := L.a4; have z4 := L.z4; have v4 := L.v4; have t22 := L.t22; have a22 := L.a22; have z22 := L.z22; have v22 := L.v22
  have q22 : ∀ (w : World) (a : Option Addr) (n c n' c' : Nat), (binOp .eql (ρ.t 22) (.slice a n c) (.slice none n' c')).run P w = .ok (.bool a.isNone) w := fun w a n c n' c' => Lib.run_eql_slice_nil w _ _ a n c n' c' L.t22
  have u22 : ∀ w, Sem.run P (underlying (ρ.t 22)) w = .ok (TypeDesc.slice (ρ.t 23)) w := run_underlying t22
  obtain ⟨_, _, FG⟩ := L.f41
  go_enter FG, SlBodyN.n41_ntmps ρ
  go_wp2_with (at_builtin; refine wpList_append_own _ rfl _ _ (ρ.t 22) rfl w.heap.size (ρ.t 23) i0 z size bytes t22 hi hz0 hz1 hz2 hzs hsz _ _ _ rfl (World.ownsRow_made w #[] 0 (Nat.le_refl _) (Nat.zero_le _) (by simp)) p 0 c [] rfl ?qc1 ?qc2 ?qc3 ?qc4 ?qc5 ?qc6 ?_)
  case qc1 => simp
  case qc2 => intro j u hj; simp at hj
  case qc3 => simp
  case qc4 => simp
  case qc5 => simp
  case qc6 => simp
  intro v' w1 hown hgrow hnil
  go_wp2
  go_ret
  exact ⟨v', rfl, by simpa using hown, ((Below.refl _ w).alloc (Nat.le_refl _) _).grown hgrow (by simp) (by intro k hk; simp [Value.ownBlock] at hk; omega)⟩

theorem clone_own (L : SlLaysE0.n41 P ρ) (i0 : TypeInfo) (z : Value) (size bytes : Nat) (hi : P.info? (ρ.t 23) = some i0) (hz0 : i0.zero = some z) (hz1 : i0.size = size) (hz2 : i0.bytes = bytes) (hzs : z.cells.size = size) (hsz : 0 < size) (hby : bytes ≤ 1024)
    (z23 : ∀ w, (Go.sizeOf (ρ.t 23)).run P w = .ok size w) (hcall : callable P (ρ.f 41) = true) (rows : List (List DV)) (hall : ∀ r ∈ rows, r.length = size) (hlen : rows.length ≤ 137438953472) : FSpec P (ρ.f 41) (([.slice rows] : List DV).map .d) (.own (.sl (ρ.t 23) (List.replicate size .sh)) (.slice rows)) (([.slice rows] : List DV).map .d) := by
  refine own_spec hcall hall (fun w M vs hM hv => ?_)
  simp only [RepL] at hv
  obtain ⟨u, us, rfl, hu, rfl⟩ := hv
  have hS : RepS w M (fun _ => .pointer none) (.d (.slice rows)) u := by simpa only [RepS] using hu
  obtain ⟨ad, cap, news, hu', k1, k2, k3⟩ := rowsY_rep (sz := size) hS (rows2 := rows.map dR) rfl (by intro r hr; obtain ⟨q, hq, rfl⟩ := List.mem_map.1 hr; simp [dR, hall q hq])
  simp only [List.length_map] at hu'
  subst hu'
  rw [dR_flatten] at k1
  have k1' : RepL w M rows.flatten news := RepSL.toDVs _ _ _ k1 (dR_toDVs _)
  have zero : ∀ (a : Option Addr), rows = [] → Calls P (ρ.f 41) #[.slice a 0 cap] w fun e w' => ∃ v news, e = .returned v ∧ w'.ownsRow w.heap.size (ρ.t 23) size v 0 news ∧ RepL w M ([] : List (List DV)).flatten news ∧ (∀ u ∈ news, u.oneCell' = true) ∧ Below w.heap.size w w' := by
    intro a hr
    subst hr
    cases a with
    | none =>
      refine (AnyE.slices_Clone_nil L 0 cap w).mono ?_
      rintro e w' ⟨rfl, rfl⟩
      exact ⟨_, [], rfl, ⟨by simp, .inl ⟨rfl, rfl⟩⟩, by simp [RepL], by simp, Below.refl _ _⟩
    | some p =>
      refine (clone_zero L i0 z size bytes hi hz0 hz1 hz2 hzs hsz z23 p cap w).mono ?_
      rintro e w' ⟨v', rfl, ho, hB⟩
      exact ⟨v', [], rfl, ho, by simp [RepL], by simp, hB⟩
  rcases k3 with ⟨hr, hn⟩ | ⟨b, o, rfl, hcells⟩
  · have hr' : rows = [] := by simpa using hr
    have := zero ad hr'
    subst hr'
    exact this
  · have hbytes : rows.length * bytes ≤ 140737488355328 := by
      have := Nat.mul_le_mul hlen hby
      omega
    refine (AnyE.slices_Clone L i0 z size bytes hi hz0 hz1 hz2 hzs hsz z23 b o rows.length cap news w (by rw [← flatten_len hall]; exact k1'.len) (by unfold maxLen; omega) hbytes hcells k2).mono ?_
    rintro e w' ⟨v', rfl, ho, _, hB⟩
    exact ⟨v', news, rfl, ho, k1', k2, hB⟩
end Go.Proofs.YtdkncdkdbddgoaaDoor

/-
  DERIVED: THE SHELF's CONTRACTS AT THIS DUMP, IN PLAIN WORDS (tools/lay-plain.mjs out of 'YtdkncdkdbddgoaaDoorShelfC.lean', which tools/lay-shelf.mjs wrote): THE SAME DECLARATIONS UNDER THE SAME NAMES: 'import', 'namespace', 'open', 'def', 'theorem' AND NOTHING ELSE: no command of the shelf's: FOR A HAND-IN. Each laying: the table of numbers ('.._ren') and one theorem, a field a fact of the dump's own or the kernel's comparison; each contract: ONE APPLICATION.
-/
namespace Go.Proofs
open Go.Shelf
def Tryd.lays41_30_ren : Go.Shelf.Ren := ⟨fun | 41 => 30 | n => n, fun | 22 => 37 | 23 => 64 | 4 => 4 | n => n, fun | n => n⟩
theorem Tryd.lays41_30 : Go.Proofs.SlLaysE0.n41 Tryd.prog Tryd.lays41_30_ren := {
  mixed := by kernel_rfl
  f41 := ⟨Tryd.f30.name, by decide, Tryd.func30.trans (congrArg some (by kernel_rfl))⟩
  t4 := Tryd.underlying4
  a4 := Tryd.isAgg4
  z4 := Tryd.sizeOf4
  v4 := Tryd.zeroValue4
  t22 := Tryd.underlying37
  a22 := Tryd.isAgg37
  z22 := Tryd.sizeOf37
  v22 := Tryd.zeroValue37 }
def Tryd.lays41_31_ren : Go.Shelf.Ren := ⟨fun | 41 => 31 | n => n, fun | 22 => 62 | 23 => 28 | 4 => 4 | n => n, fun | n => n⟩
theorem Tryd.lays41_31 : Go.Proofs.SlLaysE0.n41 Tryd.prog Tryd.lays41_31_ren := {
  mixed := by kernel_rfl
  f41 := ⟨Tryd.f31.name, by decide, Tryd.func31.trans (congrArg some (by kernel_rfl))⟩
  t4 := Tryd.underlying4
  a4 := Tryd.isAgg4
  z4 := Tryd.sizeOf4
  v4 := Tryd.zeroValue4
  t22 := Tryd.underlying62
  a22 := Tryd.isAgg62
  z22 := Tryd.sizeOf62
  v22 := Tryd.zeroValue62 }
def Tryd.lays41_32_ren : Go.Shelf.Ren := ⟨fun | 41 => 32 | n => n, fun | 22 => 28 | 23 => 9 | 4 => 4 | n => n, fun | n => n⟩
theorem Tryd.lays41_32 : Go.Proofs.SlLaysE0.n41 Tryd.prog Tryd.lays41_32_ren := {
  mixed := by kernel_rfl
  f41 := ⟨Tryd.f32.name, by decide, Tryd.func32.trans (congrArg some (by kernel_rfl))⟩
  t4 := Tryd.underlying4
  a4 := Tryd.isAgg4
  z4 := Tryd.sizeOf4
  v4 := Tryd.zeroValue4
  t22 := Tryd.underlying28
  a22 := Tryd.isAgg28
  z22 := Tryd.sizeOf28
  v22 := Tryd.zeroValue28 }
def Tryd.lays41_18_ren : Go.Shelf.Ren := ⟨fun | 41 => 18 | n => n, fun | 22 => 22 | 23 => 41 | 4 => 4 | n => n, fun | n => n⟩
theorem Tryd.lays41_18 : Go.Proofs.SlLaysE0.n41 Tryd.prog Tryd.lays41_18_ren := {
  mixed := by kernel_rfl
  f41 := ⟨Tryd.f18.name, by decide, Tryd.func18.trans (congrArg some (by kernel_rfl))⟩
  t4 := Tryd.underlying4
  a4 := Tryd.isAgg4
  z4 := Tryd.sizeOf4
  v4 := Tryd.zeroValue4
  t22 := Tryd.underlying22
  a22 := Tryd.isAgg22
  z22 := Tryd.sizeOf22
  v22 := Tryd.zeroValue22 }
end Go.Proofs

/-
  slices.Clone at some types.
-/
namespace Go.Proofs.YtdkncdkdbddgoaaDoor
open Go.RowKit Go.Shelf Go.Lib
def m_slices_Clone_interchange_api_Element_interchange_api_Element (l : List Tapi_Element) : Option (List Tapi_Element) := if l.length ≤ 137438953472 then some l else none
theorem spec_slices_Clone_interchange_api_Element_interchange_api_Element (l : List Tapi_Element) : ∀ r, m_slices_Clone_interchange_api_Element_interchange_api_Element l = some r → FSpec Tryd.prog 30 (([.slice (List.map rTapi_Element l)] : List DV).map .d) (.own (.sl 64 (List.replicate 1 .sh)) (.slice (List.map rTapi_Element r))) (([.slice (List.map rTapi_Element l)] : List DV).map .d) := by
  intro r hr
  unfold m_slices_Clone_interchange_api_Element_interchange_api_Element at hr
  split at hr
  · rename_i hlen
    cases hr
    exact clone_own Tryd.lays41_30 (i0 := (Tryd.prog.info? 64).get (by kernel_rfl)) (z := ((Tryd.prog.info? 64).get (by kernel_rfl)).zero.get (by kernel_rfl)) (size := 1) (bytes := ((Tryd.prog.info? 64).get (by kernel_rfl)).bytes) (Option.some_get _).symm (Option.some_get _).symm (by kernel_rfl) rfl (by kernel_rfl) (by decide) (of_decide_eq_true (by kernel_rfl)) Tryd.sizeOf64 (by kernel_rfl) (List.map rTapi_Element l) (by intro r hr; obtain ⟨b, _, rfl⟩ := List.mem_map.1 hr; rfl) (by simpa using hlen)
  · cases hr
def m_slices_Clone_LLstring_Lstring (l : List (List (List UInt8))) : Option (List (List (List UInt8))) := if l.length ≤ 137438953472 then some l else none
theorem spec_slices_Clone_LLstring_Lstring (l : List (List (List UInt8))) : ∀ r, m_slices_Clone_LLstring_Lstring l = some r → FSpec Tryd.prog 31 (([.slice (List.map (rowL rowS) l)] : List DV).map .d) (.own (.sl 28 (List.replicate 1 .sh)) (.slice (List.map (rowL rowS) r))) (([.slice (List.map (rowL rowS) l)] : List DV).map .d) := by
  intro r hr
  unfold m_slices_Clone_LLstring_Lstring at hr
  split at hr
  · rename_i hlen
    cases hr
    exact clone_own Tryd.lays41_31 (i0 := (Tryd.prog.info? 28).get (by kernel_rfl)) (z := ((Tryd.prog.info? 28).get (by kernel_rfl)).zero.get (by kernel_rfl)) (size := 1) (bytes := ((Tryd.prog.info? 28).get (by kernel_rfl)).bytes) (Option.some_get _).symm (Option.some_get _).symm (by kernel_rfl) rfl (by kernel_rfl) (by decide) (of_decide_eq_true (by kernel_rfl)) Tryd.sizeOf28 (by kernel_rfl) (List.map (rowL rowS) l) (by intro r hr; obtain ⟨b, _, rfl⟩ := List.mem_map.1 hr; rfl) (by simpa using hlen)
  · cases hr
def m_slices_Clone_Lstring_string (l : List (List UInt8)) : Option (List (List UInt8)) := if l.length ≤ 137438953472 then some l else none
theorem spec_slices_Clone_Lstring_string (l : List (List UInt8)) : ∀ r, m_slices_Clone_Lstring_string l = some r → FSpec Tryd.prog 32 (([.slice (List.map rowS l)] : List DV).map .d) (.own (.sl 9 (List.replicate 1 .sh)) (.slice (List.map rowS r))) (([.slice (List.map rowS l)] : List DV).map .d) := by
  intro r hr
  unfold m_slices_Clone_Lstring_string at hr
  split at hr
  · rename_i hlen
    cases hr
    exact clone_own Tryd.lays41_32 (i0 := (Tryd.prog.info? 9).get (by kernel_rfl)) (z := ((Tryd.prog.info? 9).get (by kernel_rfl)).zero.get (by kernel_rfl)) (size := 1) (bytes := ((Tryd.prog.info? 9).get (by kernel_rfl)).bytes) (Option.some_get _).symm (Option.some_get _).symm (by kernel_rfl) rfl (by kernel_rfl) (by decide) (of_decide_eq_true (by kernel_rfl)) Tryd.sizeOf9 (by kernel_rfl) (List.map rowS l) (by intro r hr; obtain ⟨b, _, rfl⟩ := List.mem_map.1 hr; rfl) (by simpa using hlen)
  · cases hr
def m_slices_Clone_interchange_api_Branch_interchange_api_Branch (l : List Tapi_Branch) : Option (List Tapi_Branch) := if l.length ≤ 137438953472 then some l else none
theorem spec_slices_Clone_interchange_api_Branch_interchange_api_Branch (l : List Tapi_Branch) : ∀ r, m_slices_Clone_interchange_api_Branch_interchange_api_Branch l = some r → FSpec Tryd.prog 18 (([.slice (List.map rTapi_Branch l)] : List DV).map .d) (.own (.sl 41 (List.replicate 4 .sh)) (.slice (List.map rTapi_Branch r))) (([.slice (List.map rTapi_Branch l)] : List DV).map .d) := by
  intro r hr
  unfold m_slices_Clone_interchange_api_Branch_interchange_api_Branch at hr
  split at hr
  · rename_i hlen
    cases hr
    exact clone_own Tryd.lays41_18 (i0 := (Tryd.prog.info? 41).get (by kernel_rfl)) (z := ((Tryd.prog.info? 41).get (by kernel_rfl)).zero.get (by kernel_rfl)) (size := 4) (bytes := ((Tryd.prog.info? 41).get (by kernel_rfl)).bytes) (Option.some_get _).symm (Option.some_get _).symm (by kernel_rfl) rfl (by kernel_rfl) (by decide) (of_decide_eq_true (by kernel_rfl)) Tryd.sizeOf41 (by kernel_rfl) (List.map rTapi_Branch l) (by intro r hr; obtain ⟨b, _, rfl⟩ := List.mem_map.1 hr; rfl) (by simpa using hlen)
  · cases hr
end Go.Proofs.YtdkncdkdbddgoaaDoor

/-
  The bodies of some functions in the engine's form, printed by a program of mine (wip/tool/sc.py) out of the translation; each is held against the translation by the kernel.
-/
namespace Go.Proofs.YtdkncdkdbddgoaaDoor

def sc_wire_Clone_L1 : SC :=
  (.seq (.reg [.r 31 (.bin .lss (.t 30) (.t 29))])
  (.seq (.cond (.t 31)
    .skip
    (.exit 2))
  (.seq (.block 3 (.seq (.reg [.r 32 (.mv (.t 30)),
       .r 33 (.idx 1 (.t 28) (.t 30)),
       .o 34 (.ld1 (.t 33)),
       .r 5 (.mv (.t 32)),
       .r 6 (.mv (.t 34))])
    (.regE [.r 35 (.fld 1 (.t 1)),
       .r 36 (.ld1 (.t 35)),
       .r 37 (.mv (.t 3)),
       .r 38 (.idx 1 (.t 36) (.t 37)),
       .r 39 (.fld 0 (.t 38)),
       .r 40 (.ld1 (.t 39)),
       .r 41 (.mv (.t 5)),
       .r 42 (.mv (.t 6)),
       .q 43 (.f 32) [.t 42] [(0, 35, .fld 1 (.t 1)), (1, 36, .ld1 (.t 35)), (2, 37, .mv (.t 3)), (3, 38, .idx 1 (.t 36) (.t 37)), (4, 39, .fld 0 (.t 38)), (5, 40, .ld1 (.t 39)), (6, 41, .mv (.t 5))],
       .r 44 (.idx 1 (.t 40) (.t 41)),
       .x 0 (.st 1 (.t 44) (.t 43)) []])))
  (.reg [.r 45 (.bin .add (.t 30) (.c (.d (.int .i64 1)))),
     .r 30 (.mv (.t 45))]))))
def sc_wire_Clone_B1 : SC := .block 2 (.loop sc_wire_Clone_L1)
def sc_wire_Clone_L2 : SC :=
  (.seq (.reg [.r 15 (.bin .lss (.t 14) (.t 13))])
  (.seq (.cond (.t 15)
    .skip
    (.exit 0))
  (.seq (.block 1 (.seq (.reg [.r 16 (.mv (.t 14)),
       .r 17 (.idx 1 (.t 12) (.t 14)),
       .o 18 (.ldA 1 (.t 17)),
       .w 4 (.boxM (.c (.agg [.nils]))),
       .r 3 (.mv (.t 16)),
       .w 0 (.st 1 (.t 4) (.t 18))])
    (.seq (.regE [.r 19 (.fld 1 (.t 1)),
       .r 20 (.ld1 (.t 19)),
       .r 21 (.mv (.t 3)),
       .r 22 (.fld 0 (.t 4)),
       .r 23 (.ld1 (.t 22)),
       .q 24 (.f 31) [.t 23] [(0, 19, .fld 1 (.t 1)), (1, 20, .ld1 (.t 19)), (2, 21, .mv (.t 3))],
       .r 25 (.idx 1 (.t 20) (.t 21)),
       .r 26 (.fld 0 (.t 25)),
       .x 0 (.st 1 (.t 26) (.t 24)) []])
    (.seq (.reg [.r 27 (.fld 0 (.t 4)),
       .o 28 (.ld1 (.t 27)),
       .r 29 (.len (.t 28)),
       .r 30 (.mv (.c (.d (.int .i64 0))))])
    sc_wire_Clone_B1))))
  (.reg [.r 46 (.bin .add (.t 14) (.c (.d (.int .i64 1)))),
     .r 14 (.mv (.t 46))]))))
def sc_wire_Clone_B2 : SC := .block 0 (.loop sc_wire_Clone_L2)
/-- interchange/wire.Clone -/
def sc_wire_Clone : SC :=
  (.seq (.reg [.w 1 (.boxM (.t 0)),
     .w 2 (.boxM (.c (.agg [.d (.str []), .nils])))])
  (.seq (.reg [.r 7 (.fld 1 (.t 1)),
     .o 8 (.ld1 (.t 7)),
     .p (some 9) (.f 30) [.t 8],
     .r 10 (.fld 1 (.t 1)),
     .w 0 (.st 1 (.t 10) (.t 9))])
  (.seq (.seq (.reg [.r 11 (.fld 1 (.t 1)),
     .o 12 (.ld1 (.t 11)),
     .r 13 (.len (.t 12)),
     .r 14 (.mv (.c (.d (.int .i64 0))))])
  sc_wire_Clone_B2)
  (.seq (.reg [.o 47 (.ldA 2 (.t 1)),
     .w 0 (.st 2 (.t 2) (.t 47))])
  .ret))))
theorem fit_wire_Clone : fits Tryd.prog 19 Tryd.f19 sc_wire_Clone [.cell 2 2] 1 = true := by kernel_rfl

end Go.Proofs.YtdkncdkdbddgoaaDoor

/-
  wire.Clone: a copy of a segment, all of which is owned.
-/
namespace Go.Proofs.YtdkncdkdbddgoaaDoor
set_option linter.unusedSimpArgs false
set_option linter.unusedVariables false
open Go.RowKit

/-- The masks of a segment that owns all of its slices. -/
def msR : List Mask := [.sl 9 [.sh]]
def msE : List Mask := [.sl 28 msR]
def msS : List Mask := [.sh, .sl 64 msE]
def cloneOk (x : Tapi_Segment) : Prop := x.fElements.length ≤ 137438953472 ∧ ∀ e ∈ x.fElements, e.fRepeats.length ≤ 137438953472 ∧ ∀ p ∈ e.fRepeats, p.length ≤ 137438953472
instance (x : Tapi_Segment) : Decidable (cloneOk x) := by unfold cloneOk; infer_instance
def m_wire_Clone (x : Tapi_Segment) : Option Tapi_Segment := if cloneOk x then some x else none

theorem ownR_E0 (y : Tapi_Element) : ownR [.sh] (rTapi_Element y) = [.d (.slice (List.map (rowL rowS) y.fRepeats))] := rfl
theorem ownR_E (y : Tapi_Element) : ownR msE (rTapi_Element y) = [.own (.sl 28 msR) (.slice (List.map (rowL rowS) y.fRepeats))] := rfl
theorem ownR_R0 (y : List (List UInt8)) : ownR [.sh] (rowL rowS y) = [.d (.slice (List.map rowS y))] := rfl
theorem ownR_R (y : List (List UInt8)) : ownR msR (rowL rowS y) = [.own (.sl 9 [.sh]) (.slice (List.map rowS y))] := rfl

set_option maxRecDepth 100000
set_option maxHeartbeats 4000000

theorem own_wire_Clone (x : Tapi_Segment) (hx : cloneOk x) : FSpec Tryd.prog 19 (([.agg (rTapi_Segment x)] : List DV).map .d) (.agg (ownR msS (rTapi_Segment x))) (([.agg (rTapi_Segment x)] : List DV).map .d) := by
  obtain ⟨tag, els⟩ := x
  obtain ⟨hx1, hx2⟩ := hx
  dsimp only at hx1 hx2
  refine fspec_walkD (N := 48) (k := 1) Tryd.func19 fit_wire_Clone (by kernel_rfl) rfl rfl ?_
  unfold sc_wire_Clone
  repeat' (first | ((with_reducible apply O_pD); (focus (simp only [push_cast, seval]; rfl)); (focus exact spec_slices_Clone_interchange_api_Element_interchange_api_Element els els (by unfold m_slices_Clone_interchange_api_Element_interchange_api_Element; rw [if_pos hx1])); (focus rfl); (focus (intro _; rfl))) | with_reducible refine W_seq ?_ | with_reducible refine W_reg ?_ | with_reducible refine W_regD ?_ | with_reducible refine W_regE ?_ | with_reducible refine W_regP ?_ | with_reducible refine W_block ?_ | with_reducible refine W_skip ?_ | with_reducible refine W_ret ?_ | with_reducible refine W_exit ?_ | with_reducible refine O_nil ?_ | with_reducible refine K_seq ?_ | with_reducible refine K_seqE ?_ | with_reducible refine K_seqR ?_ | with_reducible refine K_block ?_ | with_reducible refine K_blockR ?_ | with_reducible refine K_blockE ?_ | with_reducible refine K_forE ?_ | with_reducible refine K_forR ?_ | with_reducible refine K_rndE ?_ | with_reducible refine K_rndR ?_ | with_reducible refine O_o2r ?_ | ((with_reducible apply K_blockN); decide) | ((with_reducible apply O_r); (focus (simp only [push_cast, seval]; rfl)); (focus (first | exact trivial | omega))) | ((with_reducible apply O_w); (focus (simp only [push_cast, seval]; rfl)); (focus (first | exact trivial | omega))) | ((with_reducible apply O_x); (focus (simp only [push_cast, seval]; rfl)); (focus (first | exact trivial | omega)); (focus exact Rer_nil)))
  · unfold sc_wire_Clone_B2 sc_wire_Clone_L2
    refine W_block ?_
    refine W_for (α := Unit) (b0 := 0) (c := 15) (k := 14) (n := 13) (t := 46) (fun i _ => st [(1, .ref 1 0), (2, .ref 2 0), (12, .vec 9), (13, .d (.int .i64 (els.length : Int))), (14, .d (.int .i64 (i : Int))), (48, .d (.agg (rTapi_Segment ⟨tag, els⟩)))]
      [(1, .box [.d (.str tag), .vec 9]), (2, .box [.d (.str []), .nils]), (9, .vec 64 1 (mixO msE [.sh] rTapi_Element els i))]) (fun _ _ => True) els.length () (by omega) (fun _ _ => rfl) (fun _ _ => rfl) ?h0 trivial ?body ?done
    case h0 => exact imp_st (by simp only [keepS, push_cast, seval, and_self]) (by simp only [keepH, push_cast, seval, mixO_zero, and_self])
    case body =>
      intro i _ hi _
      obtain ⟨y, hy⟩ : ∃ y, els[i]? = some y := ⟨els[i], List.getElem?_eq_getElem hi⟩
      have hmem : y ∈ els := List.mem_of_getElem? hy
      obtain ⟨hy1, hy2⟩ := hx2 y hmem
      have hpl : (vrowO msE rTapi_Element (els.take i)).length = i := by rw [vrowO_length]; simp; omega
      have e0 : mixO msE [.sh] rTapi_Element els i = zrow (vrowO msE rTapi_Element (els.take i)) [.d (.slice (List.map (rowL rowS) y.fRepeats))] (vrowO [.sh] rTapi_Element (els.drop (i + 1))) := by
        rw [mixO_zrow hy, ownR_E0]
      dsimp only
      rw [e0]
      repeat' (first | ((with_reducible apply O_idxK); (focus (simp only [push_cast, seval]; rfl)); (focus (simp only [push_cast, seval]; rfl)); (focus (simp only [push_cast, seval]; rfl)); (focus exact hpl); (focus rfl)) | ((with_reducible apply O_ldAK); (focus (simp only [push_cast, seval]; rfl)); (focus (simp only [push_cast, seval]; rfl)); (focus exact hpl); (focus (simp only [push_cast, seval]; rfl)); (focus rfl); (focus simp)) | ((with_reducible apply O_qD); (focus (simp only [push_cast, seval]; rfl)); (focus exact spec_slices_Clone_LLstring_Lstring y.fRepeats y.fRepeats (by unfold m_slices_Clone_LLstring_Lstring; rw [if_pos hy1])); (focus rfl); (focus (intro _; rfl)); (focus ((repeat' (first | exact Rer_nil | ((with_reducible apply Rer_cons); (focus (simp only [push_cast, seval]; rfl)); (focus exact trivial); (focus (simp only [push_cast, seval]))))); done))) | ((with_reducible apply O_stKx); (focus (simp only [push_cast, seval]; rfl)); (focus (simp only [push_cast, seval]; rfl)); (focus (simp only [push_cast, seval]; rfl)); (focus exact hpl); (focus simp); (focus (simp only [push_cast, seval]; rfl)); (focus exact Rer_nil)) | with_reducible refine W_seq ?_ | with_reducible refine W_reg ?_ | with_reducible refine W_regD ?_ | with_reducible refine W_regE ?_ | with_reducible refine W_regP ?_ | with_reducible refine W_block ?_ | with_reducible refine W_skip ?_ | with_reducible refine W_ret ?_ | with_reducible refine W_exit ?_ | with_reducible refine O_nil ?_ | with_reducible refine K_seq ?_ | with_reducible refine K_seqE ?_ | with_reducible refine K_seqR ?_ | with_reducible refine K_block ?_ | with_reducible refine K_blockR ?_ | with_reducible refine K_blockE ?_ | with_reducible refine K_forE ?_ | with_reducible refine K_forR ?_ | with_reducible refine K_rndE ?_ | with_reducible refine K_rndR ?_ | with_reducible refine O_o2r ?_ | ((with_reducible apply K_blockN); decide) | ((with_reducible apply O_r); (focus (simp only [push_cast, seval]; rfl)); (focus (first | exact trivial | omega))) | ((with_reducible apply O_w); (focus (simp only [push_cast, seval]; rfl)); (focus (first | exact trivial | omega))) | ((with_reducible apply O_x); (focus (simp only [push_cast, seval]; rfl)); (focus (first | exact trivial | omega)); (focus exact Rer_nil)))
      · unfold sc_wire_Clone_B1 sc_wire_Clone_L1
        refine W_block ?_
        refine W_for (α := Unit) (b0 := 2) (c := 31) (k := 30) (n := 29) (t := 45) (fun k _ => st [(1, .ref 1 0), (2, .ref 2 0), (3, .d (.int .i64 (i : Int))), (4, .ref 4 0), (12, .vec 9), (13, .d (.int .i64 (els.length : Int))), (14, .d (.int .i64 (i : Int))), (28, .d (.slice (List.map (rowL rowS) y.fRepeats))), (29, .d (.int .i64 (y.fRepeats.length : Int))), (30, .d (.int .i64 (k : Int))), (48, .d (.agg (rTapi_Segment ⟨tag, els⟩)))]
          [(1, .box [.d (.str tag), .vec 9]), (2, .box [.d (.str []), .nils]), (9, .vec 64 1 (zrow (vrowO msE rTapi_Element (els.take i)) [.vec 24] (vrowO [.sh] rTapi_Element (els.drop (i + 1))))), (24, .vec 28 1 (mixO msR [.sh] (rowL rowS) y.fRepeats k))]) (fun _ _ => True) y.fRepeats.length () (by omega) (fun _ _ => rfl) (fun _ _ => rfl) ?g0 trivial ?gbody ?gdone
        case g0 => exact imp_st (by simp only [keepS, push_cast, seval, and_self]) (by simp only [keepH, push_cast, seval, mixO_zero, List.replicate, and_self])
        case gbody =>
          intro k _ hk _
          obtain ⟨z, hz⟩ : ∃ z, y.fRepeats[k]? = some z := ⟨y.fRepeats[k], List.getElem?_eq_getElem hk⟩
          have hz1 := hy2 z (List.mem_of_getElem? hz)
          have hpl2 : (vrowO msR (rowL rowS) (y.fRepeats.take k)).length = k := by rw [vrowO_length]; simp; omega
          have e1 : mixO msR [.sh] (rowL rowS) y.fRepeats k = zrow (vrowO msR (rowL rowS) (y.fRepeats.take k)) [.d (.slice (List.map rowS z))] (vrowO [.sh] (rowL rowS) (y.fRepeats.drop (k + 1))) := by
            rw [mixO_zrow hz, ownR_R0]
          have e2 : mixO msR [.sh] (rowL rowS) y.fRepeats (k + 1) = zrow (vrowO msR (rowL rowS) (y.fRepeats.take k)) [.own (.sl 9 [.sh]) (.slice (List.map rowS z))] (vrowO [.sh] (rowL rowS) (y.fRepeats.drop (k + 1))) := by
            rw [← zrow_mixO hz, ownR_R]
          dsimp only
          rw [e1]
          repeat' (first | ((with_reducible apply O_idxK); (focus (simp only [push_cast, seval]; rfl)); (focus (simp only [push_cast, seval]; rfl)); (focus (simp only [push_cast, seval]; rfl)); (focus (first | exact hpl | exact hpl2)); (focus rfl)) | ((with_reducible apply O_idxD); (focus (simp only [push_cast, seval]; rfl)); (focus (simp only [push_cast, seval]; rfl)); (focus (intro _; rfl)); (focus exact getI_ofN hz)) | ((with_reducible apply O_ldK); (focus (simp only [push_cast, seval]; rfl)); (focus (simp only [push_cast, seval]; rfl)); (focus exact hpl); (focus (simp only [push_cast, seval]; rfl)); (focus rfl)) | ((with_reducible apply O_qD); (focus (simp only [push_cast, seval]; rfl)); (focus exact spec_slices_Clone_Lstring_string z z (by unfold m_slices_Clone_Lstring_string; rw [if_pos hz1])); (focus rfl); (focus (intro _; rfl)); (focus ((repeat' (first | exact Rer_nil | ((with_reducible apply Rer_idxK); (focus (simp only [push_cast, seval]; rfl)); (focus (simp only [push_cast, seval]; rfl)); (focus (simp only [push_cast, seval]; rfl)); (focus exact hpl); (focus rfl); (focus (simp only [push_cast, seval]; (try rfl); done))) | ((with_reducible apply Rer_ldK); (focus (simp only [push_cast, seval]; rfl)); (focus (simp only [push_cast, seval]; rfl)); (focus exact hpl); (focus (simp only [push_cast, seval]; rfl)); (focus rfl); (focus (simp only [push_cast, seval]; (try rfl); done))) | ((with_reducible apply Rer_cons); (focus (simp only [push_cast, seval]; rfl)); (focus exact trivial); (focus (simp only [push_cast, seval]))))); done))) | ((with_reducible apply O_stKx); (focus (simp only [push_cast, seval]; rfl)); (focus (simp only [push_cast, seval]; rfl)); (focus (simp only [push_cast, seval]; rfl)); (focus exact hpl2); (focus simp); (focus (simp only [push_cast, seval]; rfl)); (focus exact Rer_nil)) | with_reducible refine W_seq ?_ | with_reducible refine W_reg ?_ | with_reducible refine W_regD ?_ | with_reducible refine W_regE ?_ | with_reducible refine W_regP ?_ | with_reducible refine W_block ?_ | with_reducible refine W_skip ?_ | with_reducible refine W_ret ?_ | with_reducible refine W_exit ?_ | with_reducible refine O_nil ?_ | with_reducible refine K_seq ?_ | with_reducible refine K_seqE ?_ | with_reducible refine K_seqR ?_ | with_reducible refine K_block ?_ | with_reducible refine K_blockR ?_ | with_reducible refine K_blockE ?_ | with_reducible refine K_forE ?_ | with_reducible refine K_forR ?_ | with_reducible refine K_rndE ?_ | with_reducible refine K_rndR ?_ | with_reducible refine O_o2r ?_ | ((with_reducible apply K_blockN); decide) | ((with_reducible apply O_r); (focus (simp only [push_cast, seval]; rfl)); (focus (first | exact trivial | omega))) | ((with_reducible apply O_w); (focus (simp only [push_cast, seval]; rfl)); (focus (first | exact trivial | omega))) | ((with_reducible apply O_x); (focus (simp only [push_cast, seval]; rfl)); (focus (first | exact trivial | omega)); (focus exact Rer_nil)))
          · apply K_for ()
            (focus (simp only [push_cast, seval]))
            rotate_left
            (focus exact trivial)
            refine Imp.trans (imp_closeZ (id := 24) (cid := 43) (off := 0) (ms' := [.sh]) (row' := rowS) (y := z) (k := k) (by (simp only [push_cast, seval]; (try rfl); done)) (by (simp only [push_cast, seval]; (try rfl); done)) hpl2.symm (by (simp only [push_cast, seval]; (try rfl); done)) r_rflO rfl (fun _ => rfl) (by decide) (by (simp only [push_cast, seval]; (try rfl); done))) ?_
            exact imp_st (by simp only [keepS, push_cast, seval, and_self]) (by simp only [keepH, push_cast, seval, e2, and_self])
        case gdone =>
          intro _ _
          refine K_block ?_
          have e3 : mixO msE [.sh] rTapi_Element els (i + 1) = zrow (vrowO msE rTapi_Element (els.take i)) [.own (.sl 28 msR) (.slice (List.map (rowL rowS) y.fRepeats))] (vrowO [.sh] rTapi_Element (els.drop (i + 1))) := by
            rw [← zrow_mixO hy, ownR_E]
          dsimp only
          rw [mixO_all]
          apply K_for ()
          (focus (simp only [push_cast, seval]))
          rotate_left
          (focus exact trivial)
          refine Imp.trans (imp_closeZ (id := 9) (cid := 24) (off := 0) (ms' := msR) (row' := rowL rowS) (y := y.fRepeats) (k := i) (by (simp only [push_cast, seval]; (try rfl); done)) (by (simp only [push_cast, seval]; (try rfl); done)) hpl.symm (by (simp only [push_cast, seval]; (try rfl); done)) r_rflO rfl (fun _ => rfl) (by decide) (by (simp only [push_cast, seval]; (try rfl); done))) ?_
          exact imp_st (by simp only [keepS, push_cast, seval, and_self]) (by simp only [keepH, push_cast, seval, e3, and_self])
    case done =>
      intro _ _
      dsimp only
      rw [mixO_all]
      repeat' (first | with_reducible refine W_seq ?_ | with_reducible refine W_reg ?_ | with_reducible refine W_regD ?_ | with_reducible refine W_regE ?_ | with_reducible refine W_regP ?_ | with_reducible refine W_block ?_ | with_reducible refine W_skip ?_ | with_reducible refine W_ret ?_ | with_reducible refine W_exit ?_ | with_reducible refine O_nil ?_ | with_reducible refine K_seq ?_ | with_reducible refine K_seqE ?_ | with_reducible refine K_seqR ?_ | with_reducible refine K_block ?_ | with_reducible refine K_blockR ?_ | with_reducible refine K_blockE ?_ | with_reducible refine K_forE ?_ | with_reducible refine K_forR ?_ | with_reducible refine K_rndE ?_ | with_reducible refine K_rndR ?_ | with_reducible refine O_o2r ?_ | ((with_reducible apply K_blockN); decide) | ((with_reducible apply O_r); (focus (simp only [push_cast, seval]; rfl)); (focus (first | exact trivial | omega))) | ((with_reducible apply O_w); (focus (simp only [push_cast, seval]; rfl)); (focus (first | exact trivial | omega))) | ((with_reducible apply O_x); (focus (simp only [push_cast, seval]; rfl)); (focus (first | exact trivial | omega)); (focus exact Rer_nil)))
      · apply K_endO (r0 := (⟨tag, els⟩ : Tapi_Segment)) (r := ⟨tag, els⟩) (row := rTapi_Segment) rfl (Imp.refl _)
        (focus (simp only [push_cast, seval]; rfl))
        (focus (simp only [push_cast, seval]; rfl))
        (focus (simp only [push_cast, seval]; (try rfl); done))
        (focus exact ROkL.data rfl (ROk_vec (l := els) (row := rTapi_Element) (ms := msE) (by (simp only [push_cast, seval]; (try rfl); done)) rfl (fun _ => rfl) (by simp) ROkL.nil))
        (focus rfl)
theorem fspec_wire_Clone (x : Tapi_Segment) : ∀ r, m_wire_Clone x = some r → FSpec Tryd.prog 19 (([.agg (rTapi_Segment x)] : List DV).map .d) (.agg (ownR msS (rTapi_Segment r))) (([.agg (rTapi_Segment x)] : List DV).map .d) := by
  intro r hr
  unfold m_wire_Clone at hr
  split at hr
  · rename_i hx; cases hr; exact own_wire_Clone x hx
  · cases hr
end Go.Proofs.YtdkncdkdbddgoaaDoor

/-
  wire.Clone, as a function that only computes.
-/
namespace Go.Proofs.YtdkncdkdbddgoaaDoor
set_option linter.unusedSimpArgs false
set_option linter.unusedVariables false
open Go.RowKit

theorem spec_wire_Clone (x : Tapi_Segment) : ∀ r, m_wire_Clone x = some r → PureSpec Tryd.prog 19 [.agg (rTapi_Segment x)] (.agg (rTapi_Segment r)) := fun r hr =>
  ((fspec_wire_Clone x r hr).weak (ms' := [.sh, .sh]) rfl rfl).pure rfl
end Go.Proofs.YtdkncdkdbddgoaaDoor
