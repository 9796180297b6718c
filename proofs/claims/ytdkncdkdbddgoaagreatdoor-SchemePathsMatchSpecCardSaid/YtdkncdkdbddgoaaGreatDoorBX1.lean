/-
  Texts of mine, one behind the other (SXShelf, SXLibT, SXLibS, SXShelfI, SXLibI, SXShelfR, SXLibR, SXShelfV, SXLibV, SXShelfW, SXLibW, SXFU, SXG6, SXLibO, SXLibP, SXLibC, SXShelfC, SXLibD, SXCodeN, SXNC, SXNX).
-/
import Derived.Ground.NamesProg
import Derived.Shelf.Strings.SlTrimAscii
import Derived.Shelf.Small.Strs
import Derived.Test.YtdkncdkdbddgoaaGreatDoorProg
import Derived.Test.YtdkncdkdbddgoaaGreatDoorSXEngY
import Derived.KernelRfl
import Derived.Shelf.Strconv.Itoa3
import Derived.Shelf.Strings.Repeat
import Derived.Shelf.Strings.SplitShaped
import Derived.Shelf.Strings.Shaped
import Derived.Shelf.Small.Wraps
import Derived.Shelf.Strconv.Atoi
import Derived.Test.YtdkncdkdbddgoaaGreatDoorSXEngZz
import Derived.Test.YtdkncdkdbddgoaaGreatDoorSXEngRk
import Derived.Test.YtdkncdkdbddgoaaGreatDoorSXEngX
import Derived.Shelf.SlicesE.Clone
import Derived.Shelf.SlGeneric
import Derived.Ground.SlgnProg
import Derived.Test.YtdkncdkdbddgoaaGreatDoorSXEngW
import Derived.Test.YtdkncdkdbddgoaaGreatDoorSXEngWk
/-
  DERIVED: THE SHELF's CONTRACTS AT THIS DUMP, IN PLAIN WORDS (tools/lay-plain.mjs out of 'YtdkncdkdbddgoaaGreatDoorShelf.lean', which tools/lay-shelf.mjs wrote): THE SAME DECLARATIONS UNDER THE SAME NAMES: 'import', 'namespace', 'open', 'def', 'theorem' AND NOTHING ELSE: no command of the shelf's: FOR A HAND-IN. Each laying: the table of numbers ('.._ren') and one theorem, a field a fact of the dump's own or the kernel's comparison; each contract: ONE APPLICATION.
-/
namespace Go.Proofs
open Go.Shelf
def Tryz.lays160_ren : Go.Shelf.Ren := ⟨fun | 160 => 94 | 232 => 113 | 231 => 112 | 227 => 114 | 234 => 116 | 233 => 115 | 236 => 118 | 235 => 117 | 228 => 139 | 271 => 141 | 151 => 140 | 197 => 120 | 120 => 157 | 152 => 156 | 260 => 142 | 137 => 70 | 119 => 163 | 224 => 144 | 225 => 143 | 217 => 98 | 266 => 123 | n => n, fun | 9 => 9 | 4 => 4 | 3 => 3 | 5 => 5 | 117 => 147 | 116 => 146 | 0 => 0 | 124 => 150 | 21 => 21 | 105 => 152 | 46 => 140 | 119 => 185 | 139 => 188 | 138 => 187 | n => n, fun | 3 => 4 | 4 => 5 | n => n⟩
theorem Tryz.lays160 : Go.Proofs.Lays.n160 Tryz.prog Tryz.lays160_ren := {
  mixed := by kernel_rfl
  f119 := Tryz.func163.trans (congrArg some (by kernel_rfl))
  f120 := Tryz.func157.trans (congrArg some (by kernel_rfl))
  f137 := Tryz.func70.trans (congrArg some (by kernel_rfl))
  f151 := Tryz.func140.trans (congrArg some (by kernel_rfl))
  f152 := Tryz.func156.trans (congrArg some (by kernel_rfl))
  f160 := Tryz.func94.trans (congrArg some (by kernel_rfl))
  f197 := Tryz.func120.trans (congrArg some (by kernel_rfl))
  f217 := Tryz.func98.trans (congrArg some (by kernel_rfl))
  f224 := Tryz.func144.trans (congrArg some (by kernel_rfl))
  f225 := Tryz.func143.trans (congrArg some (by kernel_rfl))
  f227 := Tryz.func114.trans (congrArg some (by kernel_rfl))
  f228 := Tryz.func139.trans (congrArg some (by kernel_rfl))
  f231 := Tryz.func112.trans (congrArg some (by kernel_rfl))
  f232 := Tryz.func113.trans (congrArg some (by kernel_rfl))
  f233 := Tryz.func115.trans (congrArg some (by kernel_rfl))
  f234 := Tryz.func116.trans (congrArg some (by kernel_rfl))
  f235 := Tryz.func117.trans (congrArg some (by kernel_rfl))
  f236 := Tryz.func118.trans (congrArg some (by kernel_rfl))
  f260 := Tryz.func142.trans (congrArg some (by kernel_rfl))
  f266 := Tryz.func123.trans (congrArg some (by kernel_rfl))
  f271 := Tryz.func141.trans (congrArg some (by kernel_rfl))
  t0 := Tryz.underlying0
  a0 := Tryz.isAgg0
  z0 := Tryz.sizeOf0
  v0 := Tryz.zeroValue0
  t3 := Tryz.underlying3
  a3 := Tryz.isAgg3
  z3 := Tryz.sizeOf3
  v3 := Tryz.zeroValue3
  t4 := Tryz.underlying4
  a4 := Tryz.isAgg4
  z4 := Tryz.sizeOf4
  v4 := Tryz.zeroValue4
  t5 := Tryz.underlying5
  a5 := Tryz.isAgg5
  z5 := Tryz.sizeOf5
  v5 := Tryz.zeroValue5
  t9 := Tryz.underlying9
  a9 := Tryz.isAgg9
  z9 := Tryz.sizeOf9
  v9 := Tryz.zeroValue9
  t21 := Tryz.underlying21
  a21 := Tryz.isAgg21
  z21 := Tryz.sizeOf21
  v21 := Tryz.zeroValue21
  t46 := Tryz.underlying140
  a46 := Tryz.isAgg140
  z46 := Tryz.sizeOf140
  v46 := Tryz.zeroValue140
  t105 := Tryz.underlying152
  a105 := Tryz.isAgg152
  z105 := Tryz.sizeOf152
  v105 := Tryz.zeroValue152
  t116 := Tryz.underlying146
  a116 := Tryz.isAgg146
  z116 := Tryz.sizeOf146
  t117 := Tryz.underlying147
  a117 := Tryz.isAgg147
  z117 := Tryz.sizeOf147
  v117 := Tryz.zeroValue147
  t119 := Tryz.underlying185
  a119 := Tryz.isAgg185
  z119 := Tryz.sizeOf185
  t124 := Tryz.underlying150
  a124 := Tryz.isAgg150
  z124 := Tryz.sizeOf150
  v124 := Tryz.zeroValue150
  t138 := Tryz.underlying187
  a138 := Tryz.isAgg187
  z138 := Tryz.sizeOf187
  v138 := Tryz.zeroValue187
  t139 := Tryz.underlying188
  a139 := Tryz.isAgg188
  z139 := Tryz.sizeOf188
  v139 := Tryz.zeroValue188
  g3 := by kernel_rfl
  g4 := by kernel_rfl }
def Tryz.lays137_ren : Go.Shelf.Ren := ⟨fun | 137 => 70 | 217 => 98 | 266 => 123 | n => n, fun | 9 => 9 | 5 => 5 | 3 => 3 | n => n, fun | n => n⟩
theorem Tryz.lays137 : Go.Proofs.Lays.n137 Tryz.prog Tryz.lays137_ren := {
  mixed := by kernel_rfl
  f137 := Tryz.func70.trans (congrArg some (by kernel_rfl))
  f217 := Tryz.func98.trans (congrArg some (by kernel_rfl))
  f266 := Tryz.func123.trans (congrArg some (by kernel_rfl))
  t3 := Tryz.underlying3
  a3 := Tryz.isAgg3
  z3 := Tryz.sizeOf3
  v3 := Tryz.zeroValue3
  t5 := Tryz.underlying5
  a5 := Tryz.isAgg5
  z5 := Tryz.sizeOf5
  v5 := Tryz.zeroValue5
  t9 := Tryz.underlying9
  a9 := Tryz.isAgg9
  z9 := Tryz.sizeOf9
  v9 := Tryz.zeroValue9 }
end Go.Proofs

/-
  strings.Trim at a set of ASCII bytes.
-/
namespace Go.Proofs.YtdkncdkdbddgoaaGreatDoor
set_option linter.unusedSimpArgs false
set_option linter.unusedVariables false
open Go.RowKit Go.Shelf

def m_strings_Trim (s cs : List UInt8) : Option (List UInt8) := if s.length ≤ 9223372036854775807 ∧ cs.length < 4294967281 ∧ cs.all (fun b => decide (b.toNat < 128)) = true then some (Lib.trimS s cs) else none
theorem spec_strings_Trim (s cs : List UInt8) : ∀ r, m_strings_Trim s cs = some r → PureSpec Tryz.prog 94 [.str s, .str cs] (.str r) := by
  intro r hr
  unfold m_strings_Trim at hr
  split at hr
  · rename_i h
    obtain ⟨h1, h2, h3⟩ := h
    cases hr
    refine ⟨by kernel_rfl, fun w M vs hM hv _ => ?_⟩
    simp only [RepL, Rep] at hv
    obtain ⟨u, us, rfl, rfl, u', us', rfl, rfl, rfl⟩ := hv
    have hcon := Any.strings_Trim_laid Tryz.lays160 (by kernel_rfl) ⟨s.toArray⟩ ⟨cs.toArray⟩ w (by simpa [ByteArray.size] using h1) (by simpa [ByteArray.size] using h2) (ascii_of_all (by simpa using h3))
    refine Calls.mono hcon ?_
    rintro e w' ⟨rfl, hB⟩
    exact ⟨_, rfl, by simp [Rep], hB⟩
  · cases hr
end Go.Proofs.YtdkncdkdbddgoaaGreatDoor

/-
  strings.IndexByte and strings.ContainsAny (of ASCII).
-/
namespace Go.Proofs.YtdkncdkdbddgoaaGreatDoor
set_option linter.unusedSimpArgs false
set_option linter.unusedVariables false
open Go.RowKit Go.Shelf

def m_strings_IndexByte (s : List UInt8) (c : UInt8) : Option Int := some (Lib.indexByte s c)
theorem spec_strings_IndexByte (s : List UInt8) (c : UInt8) : ∀ r, m_strings_IndexByte s c = some r → PureSpec Tryz.prog 70 [.str s, .int .u8 c.toNat] (.int .i64 r) := by
  intro r hr
  cases hr
  refine ⟨by kernel_rfl, fun w M vs hM hv _ => ?_⟩
  simp only [RepL, Rep] at hv
  obtain ⟨u, us, rfl, rfl, u', us', rfl, rfl, rfl⟩ := hv
  have hcon := Any.strings_IndexByte Tryz.lays137 ⟨s.toArray⟩ (c.toNat : Int) w
  refine Calls.mono hcon ?_
  rintro e w' ⟨rfl, rfl⟩
  refine ⟨_, rfl, ?_, Below.refl _ _⟩
  simp only [Rep]
  have : ((c.toNat : Int)).toNat.toUInt8 = c := by simp
  rw [this]
end Go.Proofs.YtdkncdkdbddgoaaGreatDoor

/-
  DERIVED: THE SHELF's CONTRACTS AT THIS DUMP, IN PLAIN WORDS (tools/lay-plain.mjs out of 'YtdkncdkdbddgoaaGreatDoorShelfI.lean', which tools/lay-shelf.mjs wrote): THE SAME DECLARATIONS UNDER THE SAME NAMES: 'import', 'namespace', 'open', 'def', 'theorem' AND NOTHING ELSE: no command of the shelf's: FOR A HAND-IN. Each laying: the table of numbers ('.._ren') and one theorem, a field a fact of the dump's own or the kernel's comparison; each contract: ONE APPLICATION.
-/
namespace Go.Proofs
open Go.Shelf
end Go.Proofs

/-
  strconv.Itoa, over the table of the powers of ten.
-/
namespace Go.Proofs.YtdkncdkdbddgoaaGreatDoor
set_option linter.unusedSimpArgs false
set_option linter.unusedVariables false
open Go.RowKit Go.Shelf

end Go.Proofs.YtdkncdkdbddgoaaGreatDoor

/-
  DERIVED: THE SHELF's CONTRACTS AT THIS DUMP, IN PLAIN WORDS (tools/lay-plain.mjs out of 'YtdkncdkdbddgoaaGreatDoorShelfR.lean', which tools/lay-shelf.mjs wrote): THE SAME DECLARATIONS UNDER THE SAME NAMES: 'import', 'namespace', 'open', 'def', 'theorem' AND NOTHING ELSE: no command of the shelf's: FOR A HAND-IN. Each laying: the table of numbers ('.._ren') and one theorem, a field a fact of the dump's own or the kernel's comparison; each contract: ONE APPLICATION.
-/
namespace Go.Proofs
open Go.Shelf
end Go.Proofs

/-
  strings.Repeat.
-/
namespace Go.Proofs.YtdkncdkdbddgoaaGreatDoor
set_option linter.unusedSimpArgs false
set_option linter.unusedVariables false
open Go.RowKit Go.Shelf

end Go.Proofs.YtdkncdkdbddgoaaGreatDoor

/-
  DERIVED: THE SHELF's CONTRACTS AT THIS DUMP, IN PLAIN WORDS (tools/lay-plain.mjs out of 'YtdkncdkdbddgoaaGreatDoorShelfV.lean', which tools/lay-shelf.mjs wrote): THE SAME DECLARATIONS UNDER THE SAME NAMES: 'import', 'namespace', 'open', 'def', 'theorem' AND NOTHING ELSE: no command of the shelf's: FOR A HAND-IN. Each laying: the table of numbers ('.._ren') and one theorem, a field a fact of the dump's own or the kernel's comparison; each contract: ONE APPLICATION.
-/
namespace Go.Proofs
open Go.Shelf
def Tryz.lays146_ren : Go.Shelf.Ren := ⟨fun | 146 => 41 | 221 => 69 | 268 => 95 | 138 => 96 | 143 => 97 | 195 => 119 | 197 => 120 | 218 => 121 | 219 => 122 | 260 => 142 | 217 => 98 | 225 => 143 | 224 => 144 | 267 => 145 | 266 => 123 | 314 => 158 | n => n, fun | 9 => 9 | 31 => 23 | 3 => 3 | 4 => 4 | 0 => 0 | 105 => 152 | 21 => 21 | 5 => 5 | 46 => 140 | 119 => 185 | 139 => 188 | 138 => 187 | 146 => 166 | 51 => 165 | n => n, fun | 1 => 0 | 3 => 4 | 4 => 5 | n => n⟩
theorem Tryz.lays146 : Go.Proofs.LaysM.n146 Tryz.prog Tryz.lays146_ren := {
  mixed := by kernel_rfl
  f138 := Tryz.func96.trans (congrArg some (by kernel_rfl))
  f143 := Tryz.func97.trans (congrArg some (by kernel_rfl))
  f146 := Tryz.func41.trans (congrArg some (by kernel_rfl))
  f195 := Tryz.func119.trans (congrArg some (by kernel_rfl))
  f197 := Tryz.func120.trans (congrArg some (by kernel_rfl))
  f217 := Tryz.func98.trans (congrArg some (by kernel_rfl))
  f218 := Tryz.func121.trans (congrArg some (by kernel_rfl))
  f219 := Tryz.func122.trans (congrArg some (by kernel_rfl))
  f221 := Tryz.func69.trans (congrArg some (by kernel_rfl))
  f224 := Tryz.func144.trans (congrArg some (by kernel_rfl))
  f225 := Tryz.func143.trans (congrArg some (by kernel_rfl))
  f260 := Tryz.func142.trans (congrArg some (by kernel_rfl))
  f266 := Tryz.func123.trans (congrArg some (by kernel_rfl))
  f267 := Tryz.func145.trans (congrArg some (by kernel_rfl))
  f268 := Tryz.func95.trans (congrArg some (by kernel_rfl))
  f314 := Tryz.func158.trans (congrArg some (by kernel_rfl))
  t0 := Tryz.underlying0
  a0 := Tryz.isAgg0
  z0 := Tryz.sizeOf0
  v0 := Tryz.zeroValue0
  t3 := Tryz.underlying3
  a3 := Tryz.isAgg3
  z3 := Tryz.sizeOf3
  v3 := Tryz.zeroValue3
  t4 := Tryz.underlying4
  a4 := Tryz.isAgg4
  z4 := Tryz.sizeOf4
  v4 := Tryz.zeroValue4
  t5 := Tryz.underlying5
  a5 := Tryz.isAgg5
  z5 := Tryz.sizeOf5
  v5 := Tryz.zeroValue5
  t9 := Tryz.underlying9
  a9 := Tryz.isAgg9
  z9 := Tryz.sizeOf9
  v9 := Tryz.zeroValue9
  t21 := Tryz.underlying21
  a21 := Tryz.isAgg21
  z21 := Tryz.sizeOf21
  v21 := Tryz.zeroValue21
  t31 := Tryz.underlying23
  a31 := Tryz.isAgg23
  z31 := Tryz.sizeOf23
  v31 := Tryz.zeroValue23
  t46 := Tryz.underlying140
  a46 := Tryz.isAgg140
  z46 := Tryz.sizeOf140
  v46 := Tryz.zeroValue140
  t51 := Tryz.underlying165
  a51 := Tryz.isAgg165
  z51 := Tryz.sizeOf165
  v51 := Tryz.zeroValue165
  t105 := Tryz.underlying152
  a105 := Tryz.isAgg152
  z105 := Tryz.sizeOf152
  v105 := Tryz.zeroValue152
  t119 := Tryz.underlying185
  a119 := Tryz.isAgg185
  z119 := Tryz.sizeOf185
  t138 := Tryz.underlying187
  a138 := Tryz.isAgg187
  z138 := Tryz.sizeOf187
  v138 := Tryz.zeroValue187
  t139 := Tryz.underlying188
  a139 := Tryz.isAgg188
  z139 := Tryz.sizeOf188
  v139 := Tryz.zeroValue188
  t146 := Tryz.underlying166
  a146 := Tryz.isAgg166
  z146 := Tryz.sizeOf166
  v146 := Tryz.zeroValue166
  g1 := by kernel_rfl
  g3 := by kernel_rfl
  g4 := by kernel_rfl
  i0 := by kernel_rfl
  i3 := by kernel_rfl
  i4 := by kernel_rfl
  i5 := by kernel_rfl
  i9 := by kernel_rfl
  i21 := by kernel_rfl
  i31 := by kernel_rfl
  i46 := by kernel_rfl
  i51 := by kernel_rfl
  i105 := by kernel_rfl
  i138 := by kernel_rfl
  i139 := by kernel_rfl
  i146 := by kernel_rfl
  m1 := by kernel_rfl
  s1_3 := fun w h => Go.Proofs.cell_of_shapedOpen_int (zero := #[.int .i64 0]) (t := 3) h (of_decide_eq_true (by kernel_rfl)) (by kernel_rfl) rfl (by kernel_rfl) (by kernel_rfl) Tryz.underlying3
  m3 := by kernel_rfl
  m4 := by kernel_rfl }
def Tryz.lays172_ren : Go.Shelf.Ren := ⟨fun | 172 => 73 | 244 => 99 | 245 => 100 | 247 => 124 | 279 => 125 | 280 => 126 | 281 => 127 | 282 => 128 | 287 => 146 | 316 => 147 | 171 => 57 | 205 => 148 | 321 => 159 | 322 => 160 | 243 => 85 | 246 => 104 | 283 => 131 | 284 => 132 | 285 => 133 | 286 => 134 | 129 => 150 | 317 => 149 | 318 => 151 | 319 => 152 | 320 => 153 | 337 => 161 | 338 => 162 | n => n, fun | 9 => 9 | 3 => 3 | 75 => 70 | 76 => 71 | 4 => 4 | 5 => 5 | 167 => 154 | 37 => 66 | 0 => 0 | 85 => 155 | 2 => 2 | 168 => 157 | 53 => 135 | 175 => 173 | 46 => 140 | 210 => 177 | 127 => 105 | 145 => 193 | 143 => 191 | 21 => 21 | 171 => 160 | 173 => 163 | 212 => 180 | 51 => 165 | 20 => 20 | 213 => 181 | 232 => 196 | 233 => 197 | 80 => 75 | n => n, fun | 15 => 1 | 16 => 2 | 17 => 3 | 18 => 6 | 19 => 7 | n => n⟩
theorem Tryz.lays172 : Go.Proofs.Lays.n172 Tryz.prog Tryz.lays172_ren := {
  mixed := by kernel_rfl
  f129 := Tryz.func150.trans (congrArg some (by kernel_rfl))
  f171 := Tryz.func57.trans (congrArg some (by kernel_rfl))
  f172 := Tryz.func73.trans (congrArg some (by kernel_rfl))
  f205 := Tryz.func148.trans (congrArg some (by kernel_rfl))
  f243 := Tryz.func85.trans (congrArg some (by kernel_rfl))
  f244 := Tryz.func99.trans (congrArg some (by kernel_rfl))
  f245 := Tryz.func100.trans (congrArg some (by kernel_rfl))
  f246 := Tryz.func104.trans (congrArg some (by kernel_rfl))
  f247 := Tryz.func124.trans (congrArg some (by kernel_rfl))
  f279 := Tryz.func125.trans (congrArg some (by kernel_rfl))
  f280 := Tryz.func126.trans (congrArg some (by kernel_rfl))
  f281 := Tryz.func127.trans (congrArg some (by kernel_rfl))
  f282 := Tryz.func128.trans (congrArg some (by kernel_rfl))
  f283 := Tryz.func131.trans (congrArg some (by kernel_rfl))
  f284 := Tryz.func132.trans (congrArg some (by kernel_rfl))
  f285 := Tryz.func133.trans (congrArg some (by kernel_rfl))
  f286 := Tryz.func134.trans (congrArg some (by kernel_rfl))
  f287 := Tryz.func146.trans (congrArg some (by kernel_rfl))
  f316 := Tryz.func147.trans (congrArg some (by kernel_rfl))
  f317 := Tryz.func149.trans (congrArg some (by kernel_rfl))
  f318 := Tryz.func151.trans (congrArg some (by kernel_rfl))
  f319 := Tryz.func152.trans (congrArg some (by kernel_rfl))
  f320 := Tryz.func153.trans (congrArg some (by kernel_rfl))
  f321 := Tryz.func159.trans (congrArg some (by kernel_rfl))
  f322 := Tryz.func160.trans (congrArg some (by kernel_rfl))
  f337 := Tryz.func161.trans (congrArg some (by kernel_rfl))
  f338 := Tryz.func162.trans (congrArg some (by kernel_rfl))
  t0 := Tryz.underlying0
  a0 := Tryz.isAgg0
  z0 := Tryz.sizeOf0
  v0 := Tryz.zeroValue0
  t2 := Tryz.underlying2
  a2 := Tryz.isAgg2
  z2 := Tryz.sizeOf2
  v2 := Tryz.zeroValue2
  t3 := Tryz.underlying3
  a3 := Tryz.isAgg3
  z3 := Tryz.sizeOf3
  v3 := Tryz.zeroValue3
  t4 := Tryz.underlying4
  a4 := Tryz.isAgg4
  z4 := Tryz.sizeOf4
  v4 := Tryz.zeroValue4
  t5 := Tryz.underlying5
  a5 := Tryz.isAgg5
  z5 := Tryz.sizeOf5
  v5 := Tryz.zeroValue5
  t9 := Tryz.underlying9
  a9 := Tryz.isAgg9
  z9 := Tryz.sizeOf9
  v9 := Tryz.zeroValue9
  t20 := Tryz.underlying20
  a20 := Tryz.isAgg20
  z20 := Tryz.sizeOf20
  v20 := Tryz.zeroValue20
  t21 := Tryz.underlying21
  a21 := Tryz.isAgg21
  z21 := Tryz.sizeOf21
  v21 := Tryz.zeroValue21
  t37 := Tryz.underlying66
  a37 := Tryz.isAgg66
  z37 := Tryz.sizeOf66
  v37 := Tryz.zeroValue66
  t46 := Tryz.underlying140
  a46 := Tryz.isAgg140
  z46 := Tryz.sizeOf140
  v46 := Tryz.zeroValue140
  t51 := Tryz.underlying165
  a51 := Tryz.isAgg165
  z51 := Tryz.sizeOf165
  v51 := Tryz.zeroValue165
  t53 := Tryz.underlying135
  a53 := Tryz.isAgg135
  z53 := Tryz.sizeOf135
  v53 := Tryz.zeroValue135
  t75 := Tryz.underlying70
  a75 := Tryz.isAgg70
  z75 := Tryz.sizeOf70
  v75 := Tryz.zeroValue70
  t76 := Tryz.underlying71
  a76 := Tryz.isAgg71
  z76 := Tryz.sizeOf71
  v76 := Tryz.zeroValue71
  t85 := Tryz.underlying155
  a85 := Tryz.isAgg155
  z85 := Tryz.sizeOf155
  v85 := Tryz.zeroValue155
  t127 := Tryz.underlying105
  a127 := Tryz.isAgg105
  z127 := Tryz.sizeOf105
  v127 := Tryz.zeroValue105
  t143 := Tryz.underlying191
  a143 := Tryz.isAgg191
  z143 := Tryz.sizeOf191
  v143 := Tryz.zeroValue191
  t145 := Tryz.underlying193
  a145 := Tryz.isAgg193
  z145 := Tryz.sizeOf193
  v145 := Tryz.zeroValue193
  t167 := Tryz.underlying154
  a167 := Tryz.isAgg154
  z167 := Tryz.sizeOf154
  v167 := Tryz.zeroValue154
  t168 := Tryz.underlying157
  a168 := Tryz.isAgg157
  z168 := Tryz.sizeOf157
  v168 := Tryz.zeroValue157
  t171 := Tryz.underlying160
  a171 := Tryz.isAgg160
  z171 := Tryz.sizeOf160
  v171 := Tryz.zeroValue160
  t173 := Tryz.underlying163
  a173 := Tryz.isAgg163
  z173 := Tryz.sizeOf163
  v173 := Tryz.zeroValue163
  t175 := Tryz.underlying173
  a175 := Tryz.isAgg173
  z175 := Tryz.sizeOf173
  v175 := Tryz.zeroValue173
  t210 := Tryz.underlying177
  a210 := Tryz.isAgg177
  z210 := Tryz.sizeOf177
  v210 := Tryz.zeroValue177
  t212 := Tryz.underlying180
  a212 := Tryz.isAgg180
  z212 := Tryz.sizeOf180
  v212 := Tryz.zeroValue180
  t213 := Tryz.underlying181
  a213 := Tryz.isAgg181
  z213 := Tryz.sizeOf181
  t232 := Tryz.underlying196
  a232 := Tryz.isAgg196
  z232 := Tryz.sizeOf196
  v232 := Tryz.zeroValue196
  t233 := Tryz.underlying197
  a233 := Tryz.isAgg197
  z233 := Tryz.sizeOf197
  v233 := Tryz.zeroValue197
  g15 := by kernel_rfl
  g16 := by kernel_rfl
  g17 := by kernel_rfl
  g18 := by kernel_rfl
  g19 := by kernel_rfl }
end Go.Proofs

/-
  strings.Split, SplitN, Cut (over the one number of the library that no row lists), CutSuffix, strconv.Atoi at numerals.
-/
namespace Go.Proofs.YtdkncdkdbddgoaaGreatDoor
set_option linter.unusedSimpArgs false
set_option linter.unusedVariables false
open Go.RowKit Go.Shelf

theorem maxLen_at {w : World} (h : Good w) : ∃ m, w.cell? ⟨0, 0, none⟩ = some (.int .i64 m) :=
  TabAt.int (t := (0, .i64, [])) (h (0, .i64, []) (by unfold tabs; simp)) rfl
theorem repRows_strs {w : World} {M : Nat → Prop} {b : Nat} : ∀ (xs : List ByteArray) (o : Nat), (∀ j x, xs[j]? = some x → w.cell? ⟨b, o + j, none⟩ = some (.string x)) → RepRows w M ((xs.map (·.data.toList)).map rowS) b o 1
  | [], o, _ => by simp [RepRows]
  | x :: xs, o, h => by
    simp only [List.map_cons]
    unfold RepRows
    refine ⟨rfl, ?_, repRows_strs xs (o + 1) fun j y hy => by have := h (j + 1) y (by simpa using hy); rwa [show o + (j + 1) = o + 1 + j by omega] at this⟩
    unfold rowS RepAt
    refine ⟨⟨.string x, by simpa using h 0 x rfl, rfl, ?_⟩, by unfold RepAt; trivial⟩
    unfold Rep
    rw [Lib.mk_data]
theorem alloc_cell (w : World) (C : Array Value) (T : TypeId) (j : Nat) : (w.alloc (.cells C T)).cell? ⟨w.heap.size, j, none⟩ = C[j]? := by
  have hh : (w.alloc (.cells C T)).heap[w.heap.size]? = some (.cells C T) := by
    show (w.heap.push _)[w.heap.size]? = _
    simp
  unfold World.cell?
  rw [hh]
  rfl
theorem strs_rep {w : World} {M : Nat → Prop} {xs : List ByteArray} {C : Array Value} {T : TypeId} {cap : Nat} (hM : ∀ b, M b → b < w.heap.size) (hc : ∀ (j : Nat) (x : ByteArray), xs[j]? = some x → C[j]? = some (Value.string x)) (hcap : xs.length ≤ cap) :
    Rep (w.alloc (.cells C T)) M (.slice ((xs.map (·.data.toList)).map rowS)) (.slice (some ⟨w.heap.size, 0, none⟩) xs.length cap) := by
  unfold Rep
  refine ⟨_, _, by rw [List.length_map, List.length_map], by rw [List.length_map, List.length_map]; exact hcap, (fun h => by cases h), .inr ⟨w.heap.size, 0, 1, rfl, fun h => absurd (hM _ h) (Nat.lt_irrefl _), ?_, ?_⟩⟩
  · show _ < (w.heap.push _).size
    rw [Array.size_push]; omega
  · exact repRows_strs xs 0 fun j x hx => by rw [Nat.zero_add, alloc_cell]; exact hc j x hx
theorem below_alloc (w : World) (o : Obj) : Below w.heap.size w (w.alloc o) := (Below.refl _ w).alloc (Nat.le_refl _) _
def m_strings_Split (s sep : List UInt8) : Option (List (List UInt8)) := if s.length < 4294967281 ∧ 1 ≤ sep.length then some (Lib.split s sep) else none
theorem spec_strings_Split (s sep : List UInt8) : ∀ r, m_strings_Split s sep = some r → PureSpec Tryz.prog 41 [.str s, .str sep] (.slice (List.map rowS r)) := by
  intro r hr
  unfold m_strings_Split at hr
  split at hr
  · rename_i h
    cases hr
    refine ⟨by kernel_rfl, fun w M vs hM hv hgood => ?_⟩
    simp only [RepL, Rep] at hv
    obtain ⟨u, us, rfl, rfl, u', us', rfl, rfl, rfl⟩ := hv
    obtain ⟨m, hm⟩ := maxLen_at hgood
    have h1 : (⟨s.toArray⟩ : ByteArray).size < 4294967281 := by simpa [ByteArray.size] using h.1
    have h2 : 1 ≤ (⟨sep.toArray⟩ : ByteArray).size := by simpa [ByteArray.size] using h.2
    refine Calls.mono (Any.strings_Split { Tryz.lays146 with } Tryz.lays146.i9 ⟨s.toArray⟩ ⟨sep.toArray⟩ m w h1 hm h2) ?_
    rintro e w' ⟨rfl, rfl⟩
    have hlen := Lib.splitB_all ⟨sep.toArray⟩ h2 0 _ ⟨s.toArray⟩ rfl
    have hdat := Lib.splitB_data ⟨sep.toArray⟩ 0 (Lib.countB ⟨s.toArray⟩ ⟨sep.toArray⟩) ⟨s.toArray⟩
    refine ⟨_, rfl, ?_, below_alloc _ _⟩
    have := fun T => strs_rep (w := w) (M := M) (T := T) (xs := Lib.splitB ⟨sep.toArray⟩ 0 (Lib.countB ⟨s.toArray⟩ ⟨sep.toArray⟩) ⟨s.toArray⟩) (C := ((Lib.splitB ⟨sep.toArray⟩ 0 (Lib.countB ⟨s.toArray⟩ ⟨sep.toArray⟩) ⟨s.toArray⟩).map Value.string).toArray) (cap := Lib.countB ⟨s.toArray⟩ ⟨sep.toArray⟩ + 1) hM (fun j x hx => by simp [hx]) (by omega)
    simp only [hdat, hlen] at this
    exact this _
  · cases hr
/-! ### strings.SplitN -/
/-! ### strings.Cut, CutSuffix -/
/-! ### strconv.Atoi -/
noncomputable def m_strconv_Atoi (s : List UInt8) : Option Int := if s.length ≤ 18 then Lib.atoi s else none
theorem spec_strconv_Atoi (s : List UInt8) : ∀ r, m_strconv_Atoi s = some r → PureSpec Tryz.prog 73 [.str s] (.tup [.int .i64 r, .raw .nilIface]) := by
  intro r hr
  unfold m_strconv_Atoi at hr
  split at hr
  · rename_i h
    refine ⟨by kernel_rfl, fun w M vs hM hv hgood => ?_⟩
    simp only [RepL, Rep] at hv
    obtain ⟨u, us, rfl, rfl, rfl⟩ := hv
    refine Calls.mono (Any.strconv_Atoi Tryz.lays172 ⟨s.toArray⟩ r (by simpa [ByteArray.size] using h) hr w) ?_
    rintro e w' ⟨rfl, t, rfl⟩
    refine ⟨_, rfl, ?_, ⟨rfl, rfl, rfl, by rw [Lib.bytesWorld_size]; omega, fun j hj => Lib.bytesWorld_at_old w _ t j hj⟩⟩
    unfold Rep
    refine ⟨_, rfl, ?_⟩
    simp [RepL, Rep]
  · cases hr
end Go.Proofs.YtdkncdkdbddgoaaGreatDoor

/-
  DERIVED: THE SHELF's CONTRACTS AT THIS DUMP, IN PLAIN WORDS (tools/lay-plain.mjs out of 'YtdkncdkdbddgoaaGreatDoorShelfW.lean', which tools/lay-shelf.mjs wrote): THE SAME DECLARATIONS UNDER THE SAME NAMES: 'import', 'namespace', 'open', 'def', 'theorem' AND NOTHING ELSE: no command of the shelf's: FOR A HAND-IN. Each laying: the table of numbers ('.._ren') and one theorem, a field a fact of the dump's own or the kernel's comparison; each contract: ONE APPLICATION.
-/
namespace Go.Proofs
open Go.Shelf
end Go.Proofs

/-
  strings.CutPrefix.
-/
namespace Go.Proofs.YtdkncdkdbddgoaaGreatDoor
set_option linter.unusedSimpArgs false
set_option linter.unusedVariables false
open Go.RowKit Go.Shelf

end Go.Proofs.YtdkncdkdbddgoaaGreatDoor

/-
  A number that is great enough for every recursion of the program that ends (its value is kept from the kernel).
-/
namespace Go.Proofs.YtdkncdkdbddgoaaGreatDoor
set_option linter.unusedSimpArgs false
set_option linter.unusedVariables false
theorem FU_ex : ∃ n : Nat, 1000000 ≤ n := ⟨_, Nat.le_refl _⟩
noncomputable def FU : Nat := Classical.choose FU_ex
theorem FU_big : 1000000 ≤ FU := Classical.choose_spec FU_ex
end Go.Proofs.YtdkncdkdbddgoaaGreatDoor

/-
  Bodies of functions and what they compute, printed by programs of mine (wip/tool/gen.py, sc.py) out of the translation; the kernel holds each against the translation.
-/
namespace Go.Proofs.YtdkncdkdbddgoaaGreatDoor
open Go.RowKit
set_option linter.unusedSimpArgs false
set_option linter.unusedVariables false
structure Tapi_Element where
  fRepeats : List (List (List UInt8))
  deriving DecidableEq
def rTapi_Element (x : Tapi_Element) : List DV := [.slice (List.map (rowL rowS) x.fRepeats)]
attribute [push_cast] rTapi_Element
theorem fT_Tapi_Element {d0 : DV} {v0 : List (List (List UInt8))} (h0 : d0 = .slice (List.map (rowL rowS) v0)) : [d0] = rTapi_Element ⟨v0⟩ := by unfold rTapi_Element; simp only [h0, List.cons_append, List.nil_append, List.append_assoc, List.append_nil]
theorem cT_Tapi_Element {d0 : SV} {v0 : List (List (List UInt8))} (h0 : svle d0 (.d (.slice (List.map (rowL rowS) v0)))) : cellsle [d0] (dR (rTapi_Element ⟨v0⟩)) := by have h := (cellsle.consS h0 cellsle.nil); simpa only [rTapi_Element, dR, List.map_append, List.map_cons, List.map_nil, List.cons_append, List.nil_append, List.append_assoc, List.append_nil] using h
theorem eT_Tapi_Element {d0 : SV} {v0 : List (List (List UInt8))} (h0 : d0 = .d (.slice (List.map (rowL rowS) v0))) : [d0] = dR (rTapi_Element ⟨v0⟩) := by simp only [rTapi_Element, dR, List.map_append, List.map_cons, List.map_nil, List.cons_append, List.nil_append, List.append_assoc, List.append_nil, h0]

structure Tapi_Segment where
  fTag : List UInt8
  fElements : List Tapi_Element
  deriving DecidableEq
def rTapi_Segment (x : Tapi_Segment) : List DV := [.str x.fTag, .slice (List.map rTapi_Element x.fElements)]
attribute [push_cast] rTapi_Segment
theorem fT_Tapi_Segment {d0 d1 : DV} {v0 : List UInt8} {v1 : List Tapi_Element} (h0 : d0 = .str v0) (h1 : d1 = .slice (List.map rTapi_Element v1)) : [d0, d1] = rTapi_Segment ⟨v0, v1⟩ := by unfold rTapi_Segment; simp only [h0, h1, List.cons_append, List.nil_append, List.append_assoc, List.append_nil]
theorem cT_Tapi_Segment {d0 d1 : SV} {v0 : List UInt8} {v1 : List Tapi_Element} (h0 : svle d0 (.d (.str v0))) (h1 : svle d1 (.d (.slice (List.map rTapi_Element v1)))) : cellsle [d0, d1] (dR (rTapi_Segment ⟨v0, v1⟩)) := by have h := (cellsle.append (cellsle.consS h0 cellsle.nil) (cellsle.consS h1 cellsle.nil)); simpa only [rTapi_Segment, dR, List.map_append, List.map_cons, List.map_nil, List.cons_append, List.nil_append, List.append_assoc, List.append_nil] using h
theorem eT_Tapi_Segment {d0 d1 : SV} {v0 : List UInt8} {v1 : List Tapi_Element} (h0 : d0 = .d (.str v0)) (h1 : d1 = .d (.slice (List.map rTapi_Element v1))) : [d0, d1] = dR (rTapi_Segment ⟨v0, v1⟩) := by simp only [rTapi_Segment, dR, List.map_append, List.map_cons, List.map_nil, List.cons_append, List.nil_append, List.append_assoc, List.append_nil, h0, h1]

structure Tscheme_pathed where
  fmany : Int
  deriving DecidableEq
def rTscheme_pathed (x : Tscheme_pathed) : List DV := [.int .i64 x.fmany]
attribute [push_cast] rTscheme_pathed
theorem fT_Tscheme_pathed {d0 : DV} {v0 : Int} (h0 : d0 = .int .i64 v0) : [d0] = rTscheme_pathed ⟨v0⟩ := by unfold rTscheme_pathed; simp only [h0, List.cons_append, List.nil_append, List.append_assoc, List.append_nil]
theorem cT_Tscheme_pathed {d0 : SV} {v0 : Int} (h0 : svle d0 (.d (.int .i64 v0))) : cellsle [d0] (dR (rTscheme_pathed ⟨v0⟩)) := by have h := (cellsle.consS h0 cellsle.nil); simpa only [rTscheme_pathed, dR, List.map_append, List.map_cons, List.map_nil, List.cons_append, List.nil_append, List.append_assoc, List.append_nil] using h
theorem eT_Tscheme_pathed {d0 : SV} {v0 : Int} (h0 : d0 = .d (.int .i64 v0)) : [d0] = dR (rTscheme_pathed ⟨v0⟩) := by simp only [rTscheme_pathed, dR, List.map_append, List.map_cons, List.map_nil, List.cons_append, List.nil_append, List.append_assoc, List.append_nil, h0]
theorem oT_Tscheme_pathed {d0 : SV} {v0 : Int}  (h0 : svle d0 (.d (.int .i64 v0))) : cellsle [d0] (ownR [.sh] (rTscheme_pathed ⟨v0⟩)) := by have h := (cellsle.consS h0 cellsle.nil); simp only [push_cast, seval, dR] at h ⊢; exact h
def bT_Tscheme_pathed (p0 : Int) : List SV := [.d (.int .i64 p0)]
attribute [push_cast] bT_Tscheme_pathed
theorem bcT_Tscheme_pathed {d0 : SV}  {v0 : Int} (h0 : svle d0 (.d (.int .i64 v0))) : cellsle [d0] (bT_Tscheme_pathed v0) := by have h := (cellsle.consS h0 cellsle.nil); simp only [bT_Tscheme_pathed, push_cast, seval, dR] at h ⊢; exact h

structure Tapi_Branch where
  fName : List UInt8
  fSegment : Tapi_Segment
  fKids : List Tapi_Branch
mutual
def r0Tapi_Branch : Tapi_Branch → List DV
  | ⟨v0, v1, v2⟩ => [.str v0] ++ rTapi_Segment v1 ++ [.slice (rsTapi_Branch v2)]
def rsTapi_Branch : List Tapi_Branch → List (List DV)
  | [] => []
  | x :: l => r0Tapi_Branch x :: rsTapi_Branch l
end
def rTapi_Branch (x : Tapi_Branch) : List DV := [.str x.fName] ++ rTapi_Segment x.fSegment ++ [.slice (rsTapi_Branch x.fKids)]
theorem r0Tapi_Branch_eq (x : Tapi_Branch) : r0Tapi_Branch x = rTapi_Branch x := by cases x; simp only [r0Tapi_Branch, rTapi_Branch]
theorem rsTapi_Branch_map : ∀ l : List Tapi_Branch, rsTapi_Branch l = List.map rTapi_Branch l
  | [] => by simp only [rsTapi_Branch, List.map_nil]
  | x :: l => by simp only [rsTapi_Branch, List.map_cons, rsTapi_Branch_map l, r0Tapi_Branch_eq]
theorem rTapi_Branch_eq (x : Tapi_Branch) : rTapi_Branch x = [.str x.fName] ++ rTapi_Segment x.fSegment ++ [.slice (List.map rTapi_Branch x.fKids)] := by show [.str x.fName] ++ rTapi_Segment x.fSegment ++ [.slice (rsTapi_Branch x.fKids)] = _; simp only [rsTapi_Branch_map]
attribute [push_cast] rTapi_Branch_eq
theorem Tapi_Branch_eta (x : Tapi_Branch) : (⟨x.fName, x.fSegment, x.fKids⟩ : Tapi_Branch) = x := by cases x; rfl
theorem fT_Tapi_Branch {d0 d1 d2 d3 : DV} {v0 : List UInt8} {v1 : Tapi_Segment} {v2 : List Tapi_Branch} (h0 : d0 = .str v0) (h1 : [d1, d2] = rTapi_Segment v1) (h2 : d3 = .slice (List.map rTapi_Branch v2)) : [d0, d1, d2, d3] = rTapi_Branch ⟨v0, v1, v2⟩ := by rw [rTapi_Branch_eq]; simp only [h0, ← h1, h2, List.cons_append, List.nil_append, List.append_assoc, List.append_nil]
theorem cT_Tapi_Branch {d0 d1 d2 d3 : SV} {v0 : List UInt8} {v1 : Tapi_Segment} {v2 : List Tapi_Branch} (h0 : svle d0 (.d (.str v0))) (h1 : cellsle [d1, d2] (dR (rTapi_Segment v1))) (h2 : svle d3 (.d (.slice (List.map rTapi_Branch v2)))) : cellsle [d0, d1, d2, d3] (dR (rTapi_Branch ⟨v0, v1, v2⟩)) := by have h := (cellsle.append (cellsle.consS h0 cellsle.nil) (cellsle.append h1 (cellsle.consS h2 cellsle.nil))); simpa only [rTapi_Branch_eq, dR, List.map_append, List.map_cons, List.map_nil, List.cons_append, List.nil_append, List.append_assoc, List.append_nil] using h
theorem eT_Tapi_Branch {d0 d1 d2 d3 : SV} {v0 : List UInt8} {v1 : Tapi_Segment} {v2 : List Tapi_Branch} (h0 : d0 = .d (.str v0)) (h1 : ([d1, d2] : List SV) = (dR (rTapi_Segment v1))) (h2 : d3 = .d (.slice (List.map rTapi_Branch v2))) : [d0, d1, d2, d3] = dR (rTapi_Branch ⟨v0, v1, v2⟩) := by show (([d0] ++ ([d1, d2] ++ [d3])) : List SV) = _; rw [h1]; simp only [rTapi_Branch_eq, dR, List.map_append, List.map_cons, List.map_nil, List.cons_append, List.nil_append, List.append_assoc, List.append_nil, h0, h2]

/-- interchange/kit.IsName -/
def sc_kit_IsName : SC :=
  (.seq (.reg [.r 2 (.mv (.c (.d (.bool false))))])
  (.seq (.seq (.reg (.r 3 (.mv (.t 0)) :: .r 4 (.lenT (.t 3)) :: .r 5 (.bin .lss (.t 4) (.c (.d (.int .i64 1)))) :: .r 6 (.mv (.t 5)) :: gapp [7, 8, 9] 6 false (.r 7 (.mv (.t 0)) :: .r 8 (.lenT (.t 7)) :: .r 9 (.bin .gtr (.t 8) (.c (.d (.int .i64 40)))) :: []) (.r 10 (.pick (.t 6) (.c (.d (.bool true))) (.t 9)) :: .r 11 (.mv (.t 10)) :: gapp [12, 13, 14] 11 false (.r 12 (.mv (.t 0)) :: .r 13 (.sidx (.t 12) (.c (.d (.int .i64 0)))) :: .r 14 (.bin .lss (.t 13) (.c (.d (.int .u8 97)))) :: []) (.r 15 (.pick (.t 11) (.c (.d (.bool true))) (.t 14)) :: .r 16 (.mv (.t 15)) :: gapp [17, 18, 19] 16 false (.r 17 (.mv (.t 0)) :: .r 18 (.sidx (.t 17) (.c (.d (.int .i64 0)))) :: .r 19 (.bin .gtr (.t 18) (.c (.d (.int .u8 122)))) :: []) (.r 20 (.pick (.t 16) (.c (.d (.bool true))) (.t 19)) :: [])))))
  (.cond (.t 20)
    (.seq (.reg [.r 2 (.mv (.c (.d (.bool false))))])
    .ret)
    .skip))
  (.seq (.reg [.r 21 (.mv (.t 0)),
     .c 22 (.f 94) [.t 21, .c (.d (.str [97, 98, 99, 100, 101, 102, 103, 104, 105, 106, 107, 108, 109, 110, 111, 112, 113, 114, 115, 116, 117, 118, 119, 120, 121, 122, 48, 49, 50, 51, 52, 53, 54, 55, 56, 57, 45]))],
     .r 23 (.bin .eql (.t 22) (.c (.d (.str [])))),
     .r 2 (.mv (.t 23))])
  .ret)))
theorem fit_kit_IsName : fits Tryz.prog 68 Tryz.f68 sc_kit_IsName [.t 2] 1 = true := by kernel_rfl

/-- interchange/scheme.isZero -/
def sc_scheme_isZero : SC :=
  (.seq (.reg [.r 1 (.boxI (.t 0)),
     .r 2 (.mv (.c (.d (.bool false))))])
  (.seq (.reg (.r 3 (.fld 0 (.t 1)) :: .o 4 (.ld1 (.t 3)) :: .r 5 (.bin .eql (.t 4) (.c (.d (.str [])))) :: .r 6 (.mv (.t 5)) :: gapp [7, 8, 9, 10] 6 true (.r 7 (.fld 1 (.t 1)) :: .r 8 (.ld1 (.t 7)) :: .r 9 (.len (.t 8)) :: .r 10 (.bin .eql (.t 9) (.c (.d (.int .i64 0)))) :: []) (.r 11 (.pick (.t 6) (.t 10) (.c (.d (.bool false)))) :: .r 2 (.mv (.t 11)) :: [])))
  .ret))
theorem fit_scheme_isZero : fits Tryz.prog 92 Tryz.f92 sc_scheme_isZero [.t 2] 1 = true := by kernel_rfl

/-- interchange/kit.IsTagPart -/
def sc_kit_IsTagPart : SC :=
  (.seq (.reg [.r 2 (.mv (.c (.d (.bool false))))])
  (.seq (.reg [.r 3 (.mv (.t 0)),
     .c 4 (.f 94) [.t 3, .c (.d (.str [65, 66, 67, 68, 69, 70, 71, 72, 73, 74, 75, 76, 77, 78, 79, 80, 81, 82, 83, 84, 85, 86, 87, 88, 89, 90, 48, 49, 50, 51, 52, 53, 54, 55, 56, 57]))],
     .r 5 (.bin .eql (.t 4) (.c (.d (.str [])))),
     .r 2 (.mv (.t 5))])
  .ret))
theorem fit_kit_IsTagPart : fits Tryz.prog 71 Tryz.f71 sc_kit_IsTagPart [.t 2] 1 = true := by kernel_rfl

def sc_kit_InBytes_L1 : SC :=
  (.seq (.reg [.r 11 (.bin .lss (.t 10) (.t 9))])
  (.seq (.cond (.t 11)
    .skip
    (.exit 0))
  (.seq (.block 1 (.seq (.reg [.r 12 (.mv (.t 10)),
       .r 7 (.mv (.t 12))])
    (.seq (.reg (.r 13 (.mv (.t 0)) :: .r 14 (.mv (.t 7)) :: .r 15 (.sidx (.t 13) (.t 14)) :: .r 16 (.mv (.t 1)) :: .r 17 (.bin .lss (.t 15) (.t 16)) :: .r 18 (.mv (.t 17)) :: gapp [19, 20, 21, 22, 23] 18 false (.r 19 (.mv (.t 0)) :: .r 20 (.mv (.t 7)) :: .r 21 (.sidx (.t 19) (.t 20)) :: .r 22 (.mv (.t 2)) :: .r 23 (.bin .gtr (.t 21) (.t 22)) :: []) (.r 24 (.pick (.t 18) (.c (.d (.bool true))) (.t 23)) :: [])))
    (.cond (.t 24)
      (.seq (.reg [.r 6 (.mv (.c (.d (.bool false))))])
      .ret)
      .skip))))
  (.reg [.r 25 (.bin .add (.t 10) (.c (.d (.int .i64 1)))),
     .r 10 (.mv (.t 25))]))))
def sc_kit_InBytes_B1 : SC := .block 0 (.loop sc_kit_InBytes_L1)
/-- interchange/kit.InBytes -/
def sc_kit_InBytes : SC :=
  (.seq (.reg [.r 6 (.mv (.c (.d (.bool false))))])
  (.seq (.seq (.reg [.r 8 (.mv (.t 0)),
     .r 9 (.lenT (.t 8)),
     .r 10 (.mv (.c (.d (.int .i64 0))))])
  sc_kit_InBytes_B1)
  (.seq (.reg [.r 6 (.mv (.c (.d (.bool true))))])
  .ret)))
theorem fit_kit_InBytes : fits Tryz.prog 62 Tryz.f62 sc_kit_InBytes [.t 6] 3 = true := by kernel_rfl

def sc_interchangeref2_IsName_L1 : SC :=
  (.seq (.seq (.reg [.r 6 (.mv (.t 3)),
     .r 7 (.mv (.t 0)),
     .r 8 (.lenT (.t 7)),
     .r 9 (.bin .lss (.t 6) (.t 8))])
  (.cond (.t 9)
    .skip
    (.exit 0)))
  (.seq (.block 1 (.seq (.reg [.r 12 (.mv (.t 0)),
       .r 13 (.mv (.t 3)),
       .r 14 (.sidx (.t 12) (.t 13)),
       .r 4 (.mv (.t 14))])
    (.seq (.reg (.r 15 (.mv (.t 4)) :: .r 16 (.bin .geq (.t 15) (.c (.d (.int .u8 97)))) :: .r 17 (.mv (.t 16)) :: gapp [18, 19] 17 true (.r 18 (.mv (.t 4)) :: .r 19 (.bin .leq (.t 18) (.c (.d (.int .u8 122)))) :: []) (.r 20 (.pick (.t 17) (.t 19) (.c (.d (.bool false)))) :: .r 5 (.mv (.t 20)) :: [])))
    (.seq (.reg (.r 21 (.mv (.t 5)) :: .r 22 (.not (.t 21)) :: .r 23 (.mv (.t 22)) :: gapp [24, 25, 26, 27, 28, 29, 30, 31, 32, 33, 34, 35, 36, 37, 38] 23 true (.r 24 (.mv (.t 3)) :: .r 25 (.bin .eql (.t 24) (.c (.d (.int .i64 0)))) :: .r 26 (.mv (.t 25)) :: gapp [27, 28, 29, 30, 31, 32, 33, 34, 35, 36, 37] 26 false (.r 27 (.mv (.t 4)) :: .r 28 (.bin .neq (.t 27) (.c (.d (.int .u8 45)))) :: .r 29 (.mv (.t 28)) :: gapp [30, 31, 32, 33, 34, 35, 36] 29 true (.r 30 (.mv (.t 4)) :: .r 31 (.bin .geq (.t 30) (.c (.d (.int .u8 48)))) :: .r 32 (.mv (.t 31)) :: gapp [33, 34] 32 true (.r 33 (.mv (.t 4)) :: .r 34 (.bin .leq (.t 33) (.c (.d (.int .u8 57)))) :: []) (.r 35 (.pick (.t 32) (.t 34) (.c (.d (.bool false)))) :: .r 36 (.not (.t 35)) :: [])) (.r 37 (.pick (.t 29) (.t 36) (.c (.d (.bool false)))) :: [])) (.r 38 (.pick (.t 26) (.c (.d (.bool true))) (.t 37)) :: [])) (.r 39 (.pick (.t 23) (.t 38) (.c (.d (.bool false)))) :: [])))
    (.cond (.t 39)
      (.seq (.reg [.r 2 (.mv (.c (.d (.bool false))))])
      .ret)
      .skip)))))
  (.reg [.r 10 (.mv (.t 3)),
     .r 11 (.bin .add (.t 10) (.c (.d (.int .i64 1)))),
     .r 3 (.mv (.t 11))])))
def sc_interchangeref2_IsName_B1 : SC := .block 0 (.loop sc_interchangeref2_IsName_L1)
/-- interchange/interchangeref2.IsName -/
def sc_interchangeref2_IsName : SC :=
  (.seq (.reg [.r 2 (.mv (.c (.d (.bool false))))])
  (.seq (.seq (.reg [.r 3 (.mv (.c (.d (.int .i64 0))))])
  sc_interchangeref2_IsName_B1)
  (.seq (.reg (.r 40 (.mv (.t 0)) :: .r 41 (.bin .neq (.t 40) (.c (.d (.str [])))) :: .r 42 (.mv (.t 41)) :: gapp [43, 44, 45] 42 true (.r 43 (.mv (.t 0)) :: .r 44 (.lenT (.t 43)) :: .r 45 (.bin .leq (.t 44) (.c (.d (.int .i64 40)))) :: []) (.r 46 (.pick (.t 42) (.t 45) (.c (.d (.bool false)))) :: .r 2 (.mv (.t 46)) :: [])))
  .ret)))
theorem fit_interchangeref2_IsName : fits Tryz.prog 48 Tryz.f48 sc_interchangeref2_IsName [.t 2] 1 = true := by kernel_rfl

def sc_interchangeref2_beginsTag_L1 : SC :=
  (.seq (.seq (.reg [.r 5 (.mv (.t 3)),
     .r 6 (.mv (.t 0)),
     .r 7 (.lenT (.t 6)),
     .r 8 (.bin .lss (.t 5) (.t 7))])
  (.cond (.t 8)
    .skip
    (.exit 0)))
  (.seq (.block 1 (.seq (.reg (.r 11 (.mv (.t 0)) :: .r 12 (.mv (.t 3)) :: .r 13 (.sidx (.t 11) (.t 12)) :: .r 14 (.bin .geq (.t 13) (.c (.d (.int .u8 65)))) :: .r 15 (.mv (.t 14)) :: gapp [16, 17, 18, 19] 15 true (.r 16 (.mv (.t 0)) :: .r 17 (.mv (.t 3)) :: .r 18 (.sidx (.t 16) (.t 17)) :: .r 19 (.bin .leq (.t 18) (.c (.d (.int .u8 90)))) :: []) (.r 20 (.pick (.t 15) (.t 19) (.c (.d (.bool false)))) :: .r 4 (.mv (.t 20)) :: [])))
    (.seq (.reg (.r 21 (.mv (.t 4)) :: .r 22 (.not (.t 21)) :: .r 23 (.mv (.t 22)) :: gapp [24, 25, 26, 27, 28, 29, 30, 31, 32, 33, 34, 35, 36, 37] 23 true (.r 24 (.mv (.t 3)) :: .r 25 (.bin .eql (.t 24) (.c (.d (.int .i64 0)))) :: .r 26 (.mv (.t 25)) :: gapp [27, 28, 29, 30] 26 false (.r 27 (.mv (.t 0)) :: .r 28 (.mv (.t 3)) :: .r 29 (.sidx (.t 27) (.t 28)) :: .r 30 (.bin .lss (.t 29) (.c (.d (.int .u8 48)))) :: []) (.r 31 (.pick (.t 26) (.c (.d (.bool true))) (.t 30)) :: .r 32 (.mv (.t 31)) :: gapp [33, 34, 35, 36] 32 false (.r 33 (.mv (.t 0)) :: .r 34 (.mv (.t 3)) :: .r 35 (.sidx (.t 33) (.t 34)) :: .r 36 (.bin .gtr (.t 35) (.c (.d (.int .u8 57)))) :: []) (.r 37 (.pick (.t 32) (.c (.d (.bool true))) (.t 36)) :: []))) (.r 38 (.pick (.t 23) (.t 37) (.c (.d (.bool false)))) :: [])))
    (.cond (.t 38)
      (.seq (.reg [.r 2 (.mv (.c (.d (.bool false))))])
      .ret)
      .skip))))
  (.reg [.r 9 (.mv (.t 3)),
     .r 10 (.bin .add (.t 9) (.c (.d (.int .i64 1)))),
     .r 3 (.mv (.t 10))])))
def sc_interchangeref2_beginsTag_B1 : SC := .block 0 (.loop sc_interchangeref2_beginsTag_L1)
/-- interchange/interchangeref2.beginsTag -/
def sc_interchangeref2_beginsTag : SC :=
  (.seq (.reg [.r 2 (.mv (.c (.d (.bool false))))])
  (.seq (.seq (.reg [.r 3 (.mv (.c (.d (.int .i64 0))))])
  sc_interchangeref2_beginsTag_B1)
  (.seq (.reg [.r 39 (.mv (.t 0)),
     .r 40 (.lenT (.t 39)),
     .r 41 (.bin .leq (.t 40) (.c (.d (.int .i64 6)))),
     .r 2 (.mv (.t 41))])
  .ret)))
theorem fit_interchangeref2_beginsTag : fits Tryz.prog 75 Tryz.f75 sc_interchangeref2_beginsTag [.t 2] 1 = true := by kernel_rfl

def sc_interchangeref2_checkText_L1 : SC :=
  (.seq (.seq (.reg [.r 7 (.mv (.t 3)),
     .r 8 (.mv (.t 0)),
     .r 9 (.lenT (.t 8)),
     .r 10 (.bin .lss (.t 7) (.t 9))])
  (.cond (.t 10)
    .skip
    (.exit 0)))
  (.seq (.block 1 (.seq (.reg (.r 13 (.mv (.t 0)) :: .r 14 (.mv (.t 3)) :: .r 15 (.sidx (.t 13) (.t 14)) :: .r 16 (.bin .lss (.t 15) (.c (.d (.int .u8 32)))) :: .r 17 (.mv (.t 16)) :: gapp [18, 19, 20, 21] 17 false (.r 18 (.mv (.t 0)) :: .r 19 (.mv (.t 3)) :: .r 20 (.sidx (.t 18) (.t 19)) :: .r 21 (.bin .gtr (.t 20) (.c (.d (.int .u8 126)))) :: []) (.r 22 (.pick (.t 17) (.c (.d (.bool true))) (.t 21)) :: [])))
    (.cond (.t 22)
      (.seq (.reg [.r 2 (.mv (.c (.d (.int .i64 3))))])
      .ret)
      .skip)))
  (.reg [.r 11 (.mv (.t 3)),
     .r 12 (.bin .add (.t 11) (.c (.d (.int .i64 1)))),
     .r 3 (.mv (.t 12))])))
def sc_interchangeref2_checkText_B1 : SC := .block 0 (.loop sc_interchangeref2_checkText_L1)
/-- interchange/interchangeref2.checkText -/
def sc_interchangeref2_checkText : SC :=
  (.seq (.reg [.r 2 (.mv (.c (.d (.int .i64 0))))])
  (.seq (.seq (.reg [.r 4 (.mv (.t 0)),
     .r 5 (.lenT (.t 4)),
     .r 6 (.bin .gtr (.t 5) (.c (.d (.int .i64 1000))))])
  (.cond (.t 6)
    (.seq (.reg [.r 2 (.mv (.c (.d (.int .i64 2))))])
    .ret)
    .skip))
  (.seq (.seq (.reg [.r 3 (.mv (.c (.d (.int .i64 0))))])
  sc_interchangeref2_checkText_B1)
  (.seq (.reg [.r 2 (.mv (.c (.d (.int .i64 0))))])
  .ret))))
theorem fit_interchangeref2_checkText : fits Tryz.prog 129 Tryz.f129 sc_interchangeref2_checkText [.t 2] 1 = true := by kernel_rfl

def sc_interchangeref2_SameTexts_L1 : SC :=
  (.seq (.seq (.reg [.r 11 (.mv (.t 5)),
     .r 12 (.mv (.t 0)),
     .r 13 (.len (.t 12)),
     .r 14 (.bin .lss (.t 11) (.t 13))])
  (.cond (.t 14)
    .skip
    (.exit 0)))
  (.seq (.block 1 (.seq (.regD [.r 17 (.mv (.t 0)),
       .r 18 (.mv (.t 5)),
       .r 19 (.idx 1 (.t 17) (.t 18)),
       .r 20 (.ld1 (.t 19)),
       .r 21 (.mv (.t 1)),
       .r 22 (.mv (.t 5)),
       .r 23 (.idx 1 (.t 21) (.t 22)),
       .r 24 (.ld1 (.t 23)),
       .r 25 (.bin .neq (.t 20) (.t 24))])
    (.cond (.t 25)
      (.seq (.reg [.r 4 (.mv (.c (.d (.bool false))))])
      .ret)
      .skip)))
  (.reg [.r 15 (.mv (.t 5)),
     .r 16 (.bin .add (.t 15) (.c (.d (.int .i64 1)))),
     .r 5 (.mv (.t 16))])))
def sc_interchangeref2_SameTexts_B1 : SC := .block 0 (.loop sc_interchangeref2_SameTexts_L1)
/-- interchange/interchangeref2.SameTexts -/
def sc_interchangeref2_SameTexts : SC :=
  (.seq (.reg [.r 4 (.mv (.c (.d (.bool false))))])
  (.seq (.seq (.reg [.r 6 (.mv (.t 0)),
     .r 7 (.len (.t 6)),
     .r 8 (.mv (.t 1)),
     .r 9 (.len (.t 8)),
     .r 10 (.bin .neq (.t 7) (.t 9))])
  (.cond (.t 10)
    (.seq (.reg [.r 4 (.mv (.c (.d (.bool false))))])
    .ret)
    .skip))
  (.seq (.seq (.reg [.r 5 (.mv (.c (.d (.int .i64 0))))])
  sc_interchangeref2_SameTexts_B1)
  (.seq (.reg [.r 4 (.mv (.c (.d (.bool true))))])
  .ret))))
theorem fit_interchangeref2_SameTexts : fits Tryz.prog 54 Tryz.f54 sc_interchangeref2_SameTexts [.t 4] 2 = true := by kernel_rfl

set_option maxRecDepth 100000 in
set_option maxHeartbeats 40000000 in
noncomputable def sims_G6_0_0 : (∀ (x0 : List UInt8), {m : Option (Bool) // ∀ r, m = some r → PureSpec Tryz.prog 68 [.str x0] (.bool r)}) × (∀ (x0 : Tapi_Segment), {m : Option (Bool) // ∀ r, m = some r → PureSpec Tryz.prog 92 [.agg (rTapi_Segment x0)] (.bool r)}) × (∀ (x0 : List UInt8), {m : Option (Bool) // ∀ r, m = some r → PureSpec Tryz.prog 71 [.str x0] (.bool r)}) × (∀ (x0 : List UInt8) (x1 : UInt8) (x2 : UInt8), {m : Option (Bool) // ∀ r, m = some r → PureSpec Tryz.prog 62 [.str x0, .int .u8 (x1).toNat, .int .u8 (x2).toNat] (.bool r)}) × (∀ (x0 : List UInt8), {m : Option (Bool) // ∀ r, m = some r → PureSpec Tryz.prog 48 [.str x0] (.bool r)}) × (∀ (x0 : List UInt8), {m : Option (Bool) // ∀ r, m = some r → PureSpec Tryz.prog 75 [.str x0] (.bool r)}) × (∀ (x0 : List UInt8), {m : Option (Int) // ∀ r, m = some r → PureSpec Tryz.prog 129 [.str x0] (.int .i64 r)}) × (∀ (x0 : List (List UInt8)) (x1 : List (List UInt8)), {m : Option (Bool) // ∀ r, m = some r → PureSpec Tryz.prog 54 [.slice (List.map rowS x0), .slice (List.map rowS x1)] (.bool r)}) := by
  refine ⟨?g0, ?g1, ?g2, ?g3, ?g4, ?g5, ?g6, ?g7⟩
  case' g0 => (intro x0; apply Subtype.mk; intro r hm; apply pure_walk Tryz.func68 fit_kit_IsName; unfold sc_kit_IsName)
  case' g1 => (intro x0; apply Subtype.mk; intro r hm; apply pure_walk Tryz.func92 fit_scheme_isZero; unfold sc_scheme_isZero)
  case' g2 => (intro x0; apply Subtype.mk; intro r hm; apply pure_walk Tryz.func71 fit_kit_IsTagPart; unfold sc_kit_IsTagPart)
  case' g3 => (intro x0 x1 x2; apply Subtype.mk; intro r hm; apply pure_walk Tryz.func62 fit_kit_InBytes; unfold sc_kit_InBytes)
  case' g4 => (intro x0; apply Subtype.mk; intro r hm; apply pure_walk Tryz.func48 fit_interchangeref2_IsName; unfold sc_interchangeref2_IsName)
  case' g5 => (intro x0; apply Subtype.mk; intro r hm; apply pure_walk Tryz.func75 fit_interchangeref2_beginsTag; unfold sc_interchangeref2_beginsTag)
  case' g6 => (intro x0; apply Subtype.mk; intro r hm; apply pure_walk Tryz.func129 fit_interchangeref2_checkText; unfold sc_interchangeref2_checkText)
  case' g7 => (intro x0 x1; apply Subtype.mk; intro r hm; apply pure_walk Tryz.func54 fit_interchangeref2_SameTexts; unfold sc_interchangeref2_SameTexts)
  all_goals (repeat' (first | with_reducible refine W_seq ?_ | with_reducible refine W_reg ?_ | with_reducible refine W_regD ?_ | with_reducible refine W_block ?_ | with_reducible refine W_skip ?_ | with_reducible refine W_ret ?_ | with_reducible refine W_exit ?_ | with_reducible refine O_nil ?_ | with_reducible refine K_seq ?_ | with_reducible refine K_seqE ?_ | with_reducible refine K_seqR ?_ | with_reducible refine K_block ?_ | with_reducible refine K_blockR ?_ | with_reducible refine K_blockE ?_ | ((with_reducible apply K_blockN); decide) | with_reducible refine O_o2r ?_ | ((with_reducible apply O_idxr hm); (iterate 2 (simp only [push_cast, seval]; rfl)); (intro _; rfl); intro e hm) | ((with_reducible apply O_idxVr hm); (iterate 3 (simp only [push_cast, seval]; rfl)); intro e hm) | ((with_reducible apply O_sidxr hm); (iterate 2 (simp only [push_cast, seval]; rfl)); intro e hm) | ((with_reducible apply O_r); (simp only [push_cast, seval]; rfl); (first | exact trivial | omega)) | ((with_reducible apply O_ldV1r hm); (iterate 2 (simp only [push_cast, seval]; rfl)); (intro _; rfl); intro e hm) | ((with_reducible apply O_strr hm); (iterate 2 (simp only [push_cast, seval]; rfl)); intro hm) | ((with_reducible apply O_and hm); (simp only [push_cast, seval]; rfl); rfl; intro v hm; rotate_left; intro v g hm) | ((with_reducible apply O_or hm); (simp only [push_cast, seval]; rfl); rfl; intro v hm; rotate_left; intro v g hm) | ((with_reducible apply W_condT); (focus (simp only [push_cast, seval]; done))) | ((with_reducible apply W_condF); (focus (simp only [push_cast, seval]; done))) | ((with_reducible apply O_cF hm); (simp only [push_cast, seval]; rfl); (first | apply spec_strings_Trim _ _); (any_goals ((repeat' (first | rfl | (with_reducible first | apply fT_Tapi_Segment | apply fT_Tapi_Element | apply f_optN | apply f_optS | apply f_some | apply f_tup | apply f_agg | apply f_ptr | apply f_fn | apply dv_slice | apply sv_d | apply f_cons | apply fold_nil | apply fold_cons | apply fold_app | apply f_rowI | apply f_rowY | apply f_rowS | apply f_rowB | apply f_rowL) | (with_reducible apply f_byte; decide))); done)); intro x hm) | ((with_reducible apply S_condB hm); (simp only [push_cast, seval]; rfl); intro hm; rotate_left; intro hm) | ((with_reducible apply K_endS hm); (focus (simp only [resOf, resL, RV.get, push_cast, seval]; rfl)); (focus ((repeat' (first | rfl | (with_reducible first | apply fT_Tapi_Segment | apply fT_Tapi_Element | apply f_optN | apply f_optS | apply f_some | apply f_tup | apply f_agg | apply f_ptr | apply f_fn | apply dv_slice | apply sv_d | apply f_cons | apply fold_nil | apply fold_cons | apply fold_app | apply f_rowI | apply f_rowY | apply f_rowS | apply f_rowB | apply f_rowL) | (with_reducible apply f_byte; decide))); done))) | ((with_reducible apply K_bool hm); (simp only [push_cast, seval]; rfl)) | ((with_reducible apply K_leave hm); intro r hm) | ((with_reducible apply K_leaveR hm); intro r hm) | ((apply S_loopY (b := 0) (X := sc_kit_InBytes_B1) (x := sc_kit_InBytes_L1) rfl (fun (c : SV × SV × SV × SV) (s : Int) => st [(0, c.1), (1, c.2.1), (2, c.2.2.1), (9, c.2.2.2), (10, .d (.int .i64 s))] []) (c := (_, _, _, _)) (s0 := _) hm); (focus (first | (dsimp only; done) | (dsimp only; rfl) | rfl)); (with_reducible refine Then.mk ?_ ?_)) | ((apply S_loopY (b := 0) (X := sc_interchangeref2_IsName_B1) (x := sc_interchangeref2_IsName_L1) rfl (fun (c : SV) (s : Int) => st [(0, c), (3, .d (.int .i64 s))] []) (c := _) (s0 := _) hm); (focus (first | (dsimp only; done) | (dsimp only; rfl) | rfl)); (with_reducible refine Then.mk ?_ ?_)) | ((apply S_loopY (b := 0) (X := sc_interchangeref2_beginsTag_B1) (x := sc_interchangeref2_beginsTag_L1) rfl (fun (c : SV) (s : Int) => st [(0, c), (3, .d (.int .i64 s))] []) (c := _) (s0 := _) hm); (focus (first | (dsimp only; done) | (dsimp only; rfl) | rfl)); (with_reducible refine Then.mk ?_ ?_)) | ((apply S_loopY (b := 0) (X := sc_interchangeref2_checkText_B1) (x := sc_interchangeref2_checkText_L1) rfl (fun (c : SV) (s : Int) => st [(0, c), (3, .d (.int .i64 s))] []) (c := _) (s0 := _) hm); (focus (first | (dsimp only; done) | (dsimp only; rfl) | rfl)); (with_reducible refine Then.mk ?_ ?_)) | ((apply S_loopY (b := 0) (X := sc_interchangeref2_SameTexts_B1) (x := sc_interchangeref2_SameTexts_L1) rfl (fun (c : SV × SV) (s : Int) => st [(0, c.1), (1, c.2), (5, .d (.int .i64 s))] []) (c := (_, _)) (s0 := _) hm); (focus (first | (dsimp only; done) | (dsimp only; rfl) | rfl)); (with_reducible refine Then.mk ?_ ?_)) | ((apply K_next (s' := _) hm); (focus (first | (dsimp only; done) | (dsimp only; rfl) | rfl))) | ((apply K_brk (s' := _) hm); (focus (first | (dsimp only; done) | (dsimp only; rfl) | rfl))) | (((with_reducible apply K_brkN hm); (focus decide); intro r hm)) | (((with_reducible apply K_brkR hm); intro r hm)) | (((with_reducible apply LoopB.of); (focus (first | (dsimp only; done) | (dsimp only; rfl) | rfl)); (focus ((intro _; repeat' (first | with_reducible exact impC_end | with_reducible exact impC_endF | with_reducible refine impC_seq ?_ | with_reducible refine impC_block ?_ | ((with_reducible refine impC_rnd ?_); intro _) | ((with_reducible refine impC_brk ?_); intro _))))); (intro s o hm; first | unfold sc_kit_InBytes_L1 | unfold sc_interchangeref2_IsName_L1 | unfold sc_interchangeref2_beginsTag_L1 | unfold sc_interchangeref2_checkText_L1 | unfold sc_interchangeref2_SameTexts_L1); rotate_left; intro s hm)) | (((apply imp_stT; (repeat' (first | with_reducible exact keepT_nil | with_reducible exact keepC_nil | with_reducible apply keepT_cons | with_reducible apply keepC_cons | ((with_reducible apply svle_eq); (focus (first | (simp only [push_cast, seval]; rfl) | rfl)); (focus ((repeat' (first | rfl | (with_reducible first | apply fT_Tapi_Segment | apply fT_Tapi_Element | apply f_optN | apply f_optS | apply f_some | apply f_tup | apply f_agg | apply f_ptr | apply f_fn | apply dv_slice | apply sv_d | apply f_cons | apply fold_nil | apply fold_cons | apply fold_app | apply f_rowI | apply f_rowY | apply f_rowS | apply f_rowB | apply f_rowL) | (with_reducible apply f_byte; decide))); done))) | ((with_reducible apply svle_td); (focus (first | (simp only [push_cast, seval]; rfl) | rfl)); (focus (first | (simp only [push_cast, seval]; rfl) | rfl)); (focus ((repeat' (first | rfl | (with_reducible first | apply fT_Tapi_Segment | apply fT_Tapi_Element | apply f_optN | apply f_optS | apply f_some | apply f_tup | apply f_agg | apply f_ptr | apply f_fn | apply dv_slice | apply sv_d | apply f_cons | apply fold_nil | apply fold_cons | apply fold_app | apply f_rowI | apply f_rowY | apply f_rowS | apply f_rowB | apply f_rowL) | (with_reducible apply f_byte; decide))); done))) | ((with_reducible apply chle_eq); (focus (first | (simp only [push_cast, seval]; rfl) | rfl)); (first | with_reducible exact chle_rfl rfl | with_reducible exact chle_map0 | with_reducible apply chle_vec | with_reducible apply chle_box)) | (with_reducible first | apply cT_Tapi_Segment | apply cT_Tapi_Element | apply r_shS | apply r_shI | apply r_rflO | apply r_oneO | apply r_appO | apply r_nilO | apply c_ownN | apply c_ownL | apply vc_rfl | apply vc_nil | apply vc_cons | apply r_rfl | apply r_rows | apply r_nil | apply r_app | apply r_cons | apply c_rowI | apply c_rowY | apply c_rowS | apply c_rowB | apply c_rowL))); done)))))
noncomputable def m_kit_IsName (x0 : List UInt8) : Option (Bool) := (sims_G6_0_0.1 x0).1
theorem spec_kit_IsName (x0 : List UInt8) : ∀ r, m_kit_IsName x0 = some r → PureSpec Tryz.prog 68 [.str x0] (.bool r) := (sims_G6_0_0.1 x0).2
noncomputable def m_scheme_isZero (x0 : Tapi_Segment) : Option (Bool) := (sims_G6_0_0.2.1 x0).1
theorem spec_scheme_isZero (x0 : Tapi_Segment) : ∀ r, m_scheme_isZero x0 = some r → PureSpec Tryz.prog 92 [.agg (rTapi_Segment x0)] (.bool r) := (sims_G6_0_0.2.1 x0).2
noncomputable def m_kit_IsTagPart (x0 : List UInt8) : Option (Bool) := (sims_G6_0_0.2.2.1 x0).1
theorem spec_kit_IsTagPart (x0 : List UInt8) : ∀ r, m_kit_IsTagPart x0 = some r → PureSpec Tryz.prog 71 [.str x0] (.bool r) := (sims_G6_0_0.2.2.1 x0).2
noncomputable def m_kit_InBytes (x0 : List UInt8) (x1 : UInt8) (x2 : UInt8) : Option (Bool) := (sims_G6_0_0.2.2.2.1 x0 x1 x2).1
theorem spec_kit_InBytes (x0 : List UInt8) (x1 : UInt8) (x2 : UInt8) : ∀ r, m_kit_InBytes x0 x1 x2 = some r → PureSpec Tryz.prog 62 [.str x0, .int .u8 (x1).toNat, .int .u8 (x2).toNat] (.bool r) := (sims_G6_0_0.2.2.2.1 x0 x1 x2).2
noncomputable def m_interchangeref2_IsName (x0 : List UInt8) : Option (Bool) := (sims_G6_0_0.2.2.2.2.1 x0).1
theorem spec_interchangeref2_IsName (x0 : List UInt8) : ∀ r, m_interchangeref2_IsName x0 = some r → PureSpec Tryz.prog 48 [.str x0] (.bool r) := (sims_G6_0_0.2.2.2.2.1 x0).2
noncomputable def m_interchangeref2_beginsTag (x0 : List UInt8) : Option (Bool) := (sims_G6_0_0.2.2.2.2.2.1 x0).1
theorem spec_interchangeref2_beginsTag (x0 : List UInt8) : ∀ r, m_interchangeref2_beginsTag x0 = some r → PureSpec Tryz.prog 75 [.str x0] (.bool r) := (sims_G6_0_0.2.2.2.2.2.1 x0).2
noncomputable def m_interchangeref2_checkText (x0 : List UInt8) : Option (Int) := (sims_G6_0_0.2.2.2.2.2.2.1 x0).1
theorem spec_interchangeref2_checkText (x0 : List UInt8) : ∀ r, m_interchangeref2_checkText x0 = some r → PureSpec Tryz.prog 129 [.str x0] (.int .i64 r) := (sims_G6_0_0.2.2.2.2.2.2.1 x0).2
noncomputable def m_interchangeref2_SameTexts (x0 : List (List UInt8)) (x1 : List (List UInt8)) : Option (Bool) := (sims_G6_0_0.2.2.2.2.2.2.2 x0 x1).1
theorem spec_interchangeref2_SameTexts (x0 : List (List UInt8)) (x1 : List (List UInt8)) : ∀ r, m_interchangeref2_SameTexts x0 x1 = some r → PureSpec Tryz.prog 54 [.slice (List.map rowS x0), .slice (List.map rowS x1)] (.bool r) := (sims_G6_0_0.2.2.2.2.2.2.2 x0 x1).2

def sc_interchangeref3_Inside_L1 : SC :=
  (.seq (.seq (.reg [.r 12 (.mv (.t 6)),
     .r 13 (.mv (.t 0)),
     .r 14 (.len (.t 13)),
     .r 15 (.bin .lss (.t 12) (.t 14))])
  (.cond (.t 15)
    .skip
    (.exit 0)))
  (.seq (.block 1 (.seq (.regD [.r 18 (.mv (.t 0)),
       .r 19 (.mv (.t 6)),
       .r 20 (.idx 4 (.t 18) (.t 19)),
       .r 21 (.fld 0 (.t 20)),
       .r 22 (.ld1 (.t 21)),
       .r 23 (.mv (.t 1)),
       .r 24 (.idx 1 (.t 23) (.c (.d (.int .i64 0)))),
       .r 25 (.ld1 (.t 24)),
       .r 26 (.bin .eql (.t 22) (.t 25))])
    (.cond (.t 26)
      (.regE [.r 27 (.mv (.t 5)),
         .r 28 (.mv (.t 0)),
         .r 29 (.mv (.t 6)),
         .r 30 (.idx 4 (.t 28) (.t 29)),
         .r 31 (.fld 3 (.t 30)),
         .r 32 (.ld1 (.t 31)),
         .r 33 (.mv (.t 1)),
         .r 34 (.slc 1 (.t 33) (some (.c (.d (.int .i64 1)))) none),
         .c 35 (.f 28) [.t 32, .t 34],
         .x 36 (.app 22 1 (.t 27) (.t 35)) [],
         .r 5 (.mv (.t 36))])
      .skip)))
  (.reg [.r 16 (.mv (.t 6)),
     .r 17 (.bin .add (.t 16) (.c (.d (.int .i64 1)))),
     .r 6 (.mv (.t 17))])))
def sc_interchangeref3_Inside_B1 : SC := .block 0 (.loop sc_interchangeref3_Inside_L1)
/-- interchange/interchangeref3.Inside -/
def sc_interchangeref3_Inside : SC :=
  (.seq (.reg [.r 4 (.mv (.c (.nils)))])
  (.seq (.seq (.reg [.r 7 (.mv (.t 1)),
     .r 8 (.len (.t 7)),
     .r 9 (.bin .eql (.t 8) (.c (.d (.int .i64 0))))])
  (.cond (.t 9)
    (.seq (.reg [.r 10 (.mv (.t 0)),
       .r 11 (.bslice 1 [.t 10]),
       .r 4 (.mv (.t 11))])
    .ret)
    .skip))
  (.seq (.reg [.r 5 (.mv (.c (.nils)))])
  (.seq (.seq (.reg [.r 6 (.mv (.c (.d (.int .i64 0))))])
  sc_interchangeref3_Inside_B1)
  (.seq (.reg [.r 37 (.mv (.t 5)),
     .r 4 (.mv (.t 37))])
  .ret)))))
theorem fit_interchangeref3_Inside : fits Tryz.prog 28 Tryz.f28 sc_interchangeref3_Inside [.t 4] 2 = true := by kernel_rfl

set_option maxRecDepth 100000 in
set_option maxHeartbeats 40000000 in
noncomputable def step_G6_0_1 : ((∀ (x0 : List Tapi_Branch) (x1 : List (List UInt8)), {m : Option ((List (List Tapi_Branch))) // ∀ r, m = some r → PureSpec Tryz.prog 28 [.slice (List.map rTapi_Branch x0), .slice (List.map rowS x1)] (.slice (List.map (rowL rTapi_Branch) r))})) → ((∀ (x0 : List Tapi_Branch) (x1 : List (List UInt8)), {m : Option ((List (List Tapi_Branch))) // ∀ r, m = some r → PureSpec Tryz.prog 28 [.slice (List.map rTapi_Branch x0), .slice (List.map rowS x1)] (.slice (List.map (rowL rTapi_Branch) r))})) := by
  intro ih
  have spec_interchangeref3_Inside : ∀ (x0 : List Tapi_Branch) (x1 : List (List UInt8)), ∀ r, (ih x0 x1).1 = some r → PureSpec Tryz.prog 28 [.slice (List.map rTapi_Branch x0), .slice (List.map rowS x1)] (.slice (List.map (rowL rTapi_Branch) r)) := fun x0 x1 => (ih x0 x1).2
  (intro x0 x1; apply Subtype.mk; intro r hm; apply pure_walk Tryz.func28 fit_interchangeref3_Inside; unfold sc_interchangeref3_Inside)
  repeat' (first | with_reducible refine W_seq ?_ | with_reducible refine W_reg ?_ | with_reducible refine W_regD ?_ | with_reducible refine W_regE ?_ | with_reducible refine W_block ?_ | with_reducible refine W_skip ?_ | with_reducible refine W_ret ?_ | with_reducible refine W_exit ?_ | with_reducible refine O_nil ?_ | with_reducible refine K_seq ?_ | with_reducible refine K_seqE ?_ | with_reducible refine K_seqR ?_ | with_reducible refine K_block ?_ | with_reducible refine K_blockR ?_ | with_reducible refine K_blockE ?_ | ((with_reducible apply K_blockN); decide) | ((with_reducible apply O_idxr hm); (iterate 2 (simp only [push_cast, seval]; rfl)); (intro _; rfl); intro e hm) | ((with_reducible apply O_idxVr hm); (iterate 3 (simp only [push_cast, seval]; rfl)); intro e hm) | ((with_reducible apply O_slcr hm); (iterate 3 (simp only [push_cast, seval]; rfl)); (intro _; rfl); intro e hm) | ((with_reducible apply O_idxLr hm (row := (rowL rTapi_Branch))); (iterate 2 (simp only [push_cast, seval]; rfl)); (focus ((repeat' (first | rfl | (with_reducible first | apply fT_Tapi_Segment | apply fT_Tapi_Element | apply fT_Tapi_Branch | apply f_optN | apply f_optS | apply f_some | apply f_tup | apply f_agg | apply f_ptr | apply f_fn | apply dv_slice | apply sv_d | apply f_cons | apply fold_nil | apply fold_cons | apply fold_app | apply f_rowI | apply f_rowY | apply f_rowS | apply f_rowB | apply f_rowL) | (with_reducible apply f_byte; decide))); done)); (simp only [push_cast, seval]; rfl); (intro _; rfl); intro e hm) | ((with_reducible apply O_slcLr hm (row := (rowL rTapi_Branch))); (iterate 2 (simp only [push_cast, seval]; rfl)); (focus ((repeat' (first | rfl | (with_reducible first | apply fT_Tapi_Segment | apply fT_Tapi_Element | apply fT_Tapi_Branch | apply f_optN | apply f_optS | apply f_some | apply f_tup | apply f_agg | apply f_ptr | apply f_fn | apply dv_slice | apply sv_d | apply f_cons | apply fold_nil | apply fold_cons | apply fold_app | apply f_rowI | apply f_rowY | apply f_rowS | apply f_rowB | apply f_rowL) | (with_reducible apply f_byte; decide))); done)); (iterate 2 (simp only [push_cast, seval]; rfl)); intro e hm) | ((with_reducible apply O_r); (simp only [push_cast, seval]; rfl); (first | exact trivial | omega)) | ((with_reducible apply O_ldV1r hm); (iterate 2 (simp only [push_cast, seval]; rfl)); (intro _; rfl); intro e hm) | ((with_reducible apply O_strr hm); (iterate 2 (simp only [push_cast, seval]; rfl)); intro hm) | ((with_reducible apply W_condT); (focus (simp only [push_cast, seval]; done))) | ((with_reducible apply W_condF); (focus (simp only [push_cast, seval]; done))) | ((with_reducible apply O_cF hm); (simp only [push_cast, seval]; rfl); (first | apply spec_interchangeref3_Inside _ _); (any_goals ((repeat' (first | rfl | (with_reducible first | apply fT_Tapi_Segment | apply fT_Tapi_Element | apply fT_Tapi_Branch | apply f_optN | apply f_optS | apply f_some | apply f_tup | apply f_agg | apply f_ptr | apply f_fn | apply dv_slice | apply sv_d | apply f_cons | apply fold_nil | apply fold_cons | apply fold_app | apply f_rowI | apply f_rowY | apply f_rowS | apply f_rowB | apply f_rowL) | (with_reducible apply f_byte; decide))); done)); intro x hm) | ((with_reducible apply O_clS hm); (simp only [push_cast, seval]; rfl); (focus (first | exact spec_interchangeref3_Inside _ _)); (intro _; rfl); intro x hm) | ((with_reducible apply O_stVAX hm); (iterate 3 (simp only [push_cast, seval]; rfl)); (focus ((repeat' (first | rfl | (with_reducible first | apply fT_Tapi_Segment | apply fT_Tapi_Element | apply fT_Tapi_Branch | apply f_optN | apply f_optS | apply f_some | apply f_tup | apply f_agg | apply f_ptr | apply f_fn | apply dv_slice | apply sv_d | apply f_cons | apply fold_nil | apply fold_cons | apply fold_app | apply f_rowI | apply f_rowY | apply f_rowS | apply f_rowB | apply f_rowL) | (with_reducible apply f_byte; decide))); done)); (intro _; rfl); (focus ((repeat' (first | exact Rer_nil | ((with_reducible apply Rer_cons); (focus (simp only [push_cast, seval]; rfl)); (focus (first | exact trivial | omega)); (focus (simp only [push_cast, seval]))))); done)); intro e hm) | ((with_reducible apply O_appVX hm); (iterate 2 (simp only [push_cast, seval]; rfl)); (focus ((repeat' (first | rfl | (with_reducible first | apply eR_nil | apply eR_app | apply eR_cons | apply eT_Tapi_Segment | apply eT_Tapi_Element | apply eT_Tapi_Branch | apply eR_I | apply eR_Y | apply eR_S | apply eR_B) | (with_reducible apply sv_d; (focus ((repeat' (first | rfl | (with_reducible first | apply fT_Tapi_Segment | apply fT_Tapi_Element | apply fT_Tapi_Branch | apply f_optN | apply f_optS | apply f_some | apply f_tup | apply f_agg | apply f_ptr | apply f_fn | apply dv_slice | apply sv_d | apply f_cons | apply fold_nil | apply fold_cons | apply fold_app | apply f_rowI | apply f_rowY | apply f_rowS | apply f_rowB | apply f_rowL) | (with_reducible apply f_byte; decide))); done))))); done)); (simp only [push_cast, seval]; rfl); (focus ((repeat' (first | rfl | (with_reducible first | apply eR_nil | apply eR_app | apply eR_cons | apply eT_Tapi_Segment | apply eT_Tapi_Element | apply eT_Tapi_Branch | apply eR_I | apply eR_Y | apply eR_S | apply eR_B) | (with_reducible apply sv_d; (focus ((repeat' (first | rfl | (with_reducible first | apply fT_Tapi_Segment | apply fT_Tapi_Element | apply fT_Tapi_Branch | apply f_optN | apply f_optS | apply f_some | apply f_tup | apply f_agg | apply f_ptr | apply f_fn | apply dv_slice | apply sv_d | apply f_cons | apply fold_nil | apply fold_cons | apply fold_app | apply f_rowI | apply f_rowY | apply f_rowS | apply f_rowB | apply f_rowL) | (with_reducible apply f_byte; decide))); done))))); done)); (intro _; rfl); (focus ((repeat' (first | exact Rer_nil | ((with_reducible apply Rer_cons); (focus (simp only [push_cast, seval]; rfl)); (focus (first | exact trivial | omega)); (focus (simp only [push_cast, seval]))))); done)); intro hm) | ((with_reducible apply O_appX2 hm); (iterate 4 (simp only [push_cast, seval]; rfl)); rfl; (focus ((repeat' (first | exact Rer_nil | ((with_reducible apply Rer_cons); (focus (simp only [push_cast, seval]; rfl)); (focus (first | exact trivial | omega)); (focus (simp only [push_cast, seval]))))); done)); intro hm) | ((with_reducible apply O_appNX hm); (focus (simp only [push_cast, seval]; done)); (iterate 2 (simp only [push_cast, seval]; rfl)); rfl; (focus ((repeat' (first | exact Rer_nil | ((with_reducible apply Rer_cons); (focus (simp only [push_cast, seval]; rfl)); (focus (first | exact trivial | omega)); (focus (simp only [push_cast, seval]))))); done)); intro hm) | ((with_reducible apply O_stVX hm); (iterate 3 (simp only [push_cast, seval]; rfl)); rfl; (intro _; rfl); rfl; (focus (intro a; simp only [push_cast, seval]; rfl)); (focus (intro a; (repeat' (first | rfl | with_reducible apply eT_Tapi_Segment | with_reducible apply eT_Tapi_Element | with_reducible apply eT_Tapi_Branch)); done)); (focus (intro _; (repeat' (first | exact Rer_nil | ((with_reducible apply Rer_cons); (focus (simp only [push_cast, seval]; rfl)); (focus (first | exact trivial | omega)); (focus (simp only [push_cast, seval]))))); done)); intro e hm) | ((with_reducible apply O_x); (simp only [push_cast, seval]; rfl); (first | exact trivial | omega); (focus ((repeat' (first | exact Rer_nil | ((with_reducible apply Rer_cons); (focus (simp only [push_cast, seval]; rfl)); (focus (first | exact trivial | omega)); (focus (simp only [push_cast, seval]))))); done))) | ((with_reducible apply S_condB hm); (simp only [push_cast, seval]; rfl); intro hm; rotate_left; intro hm) | ((with_reducible apply K_endS hm); (focus (simp only [resOf, resL, RV.get, push_cast, seval]; rfl)); (focus ((repeat' (first | rfl | (with_reducible first | apply fT_Tapi_Segment | apply fT_Tapi_Element | apply fT_Tapi_Branch | apply f_optN | apply f_optS | apply f_some | apply f_tup | apply f_agg | apply f_ptr | apply f_fn | apply dv_slice | apply sv_d | apply f_cons | apply fold_nil | apply fold_cons | apply fold_app | apply f_rowI | apply f_rowY | apply f_rowS | apply f_rowB | apply f_rowL) | (with_reducible apply f_byte; decide))); done))) | ((with_reducible apply K_leave hm); intro r hm) | ((with_reducible apply K_leaveR hm); intro r hm) | ((apply S_loopY (b := 0) (X := sc_interchangeref3_Inside_B1) (x := sc_interchangeref3_Inside_L1) rfl (fun (c : SV × SV) (s : (List (List Tapi_Branch)) × Int) => st [(0, c.1), (1, c.2), (5, .vec 5), (6, .d (.int .i64 s.2))] [(5, .vec 22 1 (vrow (rowL rTapi_Branch) s.1))]) (c := (_, _)) (s0 := (_, _)) hm); (focus (first | (dsimp only; done) | (dsimp only; rfl) | rfl)); (with_reducible refine Then.mk ?_ ?_); apply Imp.trans; (focus (apply imp_vecnil (slot := 5) (id := 5) (e := 22) (sz := 1); (focus (simp only [push_cast, seval]; done))))) | ((apply K_next (s' := (_, _)) hm); (focus (first | (dsimp only; done) | (dsimp only; rfl) | rfl))) | ((apply K_brk (s' := (_, _)) hm); (focus (first | (dsimp only; done) | (dsimp only; rfl) | rfl))) | (((with_reducible apply K_brkN hm); (focus decide); intro r hm)) | (((with_reducible apply K_brkR hm); intro r hm)) | (((with_reducible apply LoopB.of); (focus (first | (dsimp only; done) | (dsimp only; rfl) | rfl)); (focus ((intro _; repeat' (first | with_reducible exact impC_end | with_reducible exact impC_endF | with_reducible refine impC_seq ?_ | with_reducible refine impC_block ?_ | ((with_reducible refine impC_rnd ?_); intro _) | ((with_reducible refine impC_brk ?_); intro _))))); (intro s o hm; first | unfold sc_interchangeref3_Inside_L1); rotate_left; intro s hm)) | (((apply imp_stT; (repeat' (first | with_reducible exact keepT_nil | with_reducible exact keepC_nil | with_reducible apply keepT_cons | with_reducible apply keepC_cons | ((with_reducible apply svle_eq); (focus (first | (simp only [push_cast, seval]; rfl) | rfl)); (focus ((repeat' (first | rfl | (with_reducible first | apply fT_Tapi_Segment | apply fT_Tapi_Element | apply fT_Tapi_Branch | apply f_optN | apply f_optS | apply f_some | apply f_tup | apply f_agg | apply f_ptr | apply f_fn | apply dv_slice | apply sv_d | apply f_cons | apply fold_nil | apply fold_cons | apply fold_app | apply f_rowI | apply f_rowY | apply f_rowS | apply f_rowB | apply f_rowL) | (with_reducible apply f_byte; decide))); done))) | ((with_reducible apply svle_td); (focus (first | (simp only [push_cast, seval]; rfl) | rfl)); (focus (first | (simp only [push_cast, seval]; rfl) | rfl)); (focus ((repeat' (first | rfl | (with_reducible first | apply fT_Tapi_Segment | apply fT_Tapi_Element | apply fT_Tapi_Branch | apply f_optN | apply f_optS | apply f_some | apply f_tup | apply f_agg | apply f_ptr | apply f_fn | apply dv_slice | apply sv_d | apply f_cons | apply fold_nil | apply fold_cons | apply fold_app | apply f_rowI | apply f_rowY | apply f_rowS | apply f_rowB | apply f_rowL) | (with_reducible apply f_byte; decide))); done))) | ((with_reducible apply chle_eq); (focus (first | (simp only [push_cast, seval]; rfl) | rfl)); (first | with_reducible exact chle_rfl rfl | with_reducible exact chle_map0 | with_reducible apply chle_vec | with_reducible apply chle_box)) | (with_reducible first | apply cT_Tapi_Segment | apply cT_Tapi_Element | apply cT_Tapi_Branch | apply r_shS | apply r_shI | apply r_rflO | apply r_oneO | apply r_appO | apply r_nilO | apply c_ownN | apply c_ownL | apply vc_rfl | apply vc_nil | apply vc_cons | apply r_rfl | apply r_rows | apply r_nil | apply r_app | apply r_cons | apply c_rowI | apply c_rowY | apply c_rowS | apply c_rowB | apply c_rowL))); done))))
noncomputable def sims_G6_0_1 (fu : Nat) : (∀ (x0 : List Tapi_Branch) (x1 : List (List UInt8)), {m : Option ((List (List Tapi_Branch))) // ∀ r, m = some r → PureSpec Tryz.prog 28 [.slice (List.map rTapi_Branch x0), .slice (List.map rowS x1)] (.slice (List.map (rowL rTapi_Branch) r))}) := Nat.rec (fun x0 x1 => ⟨none, fun r h => by cases h⟩) (fun _ ih => step_G6_0_1 ih) fu
noncomputable def m_interchangeref3_Inside (fu : Nat) (x0 : List Tapi_Branch) (x1 : List (List UInt8)) : Option ((List (List Tapi_Branch))) := ((sims_G6_0_1 fu) x0 x1).1
theorem m_interchangeref3_Inside_fold (fu : Nat) (x0 : List Tapi_Branch) (x1 : List (List UInt8)) : ((sims_G6_0_1 fu) x0 x1).1 = m_interchangeref3_Inside fu x0 x1 := rfl
theorem m_interchangeref3_Inside_succ (fu : Nat) (x0 : List Tapi_Branch) (x1 : List (List UInt8)) : m_interchangeref3_Inside (fu + 1) x0 x1 = ((step_G6_0_1 (sims_G6_0_1 fu)) x0 x1).1 := rfl
theorem spec_interchangeref3_Inside (fu : Nat) (x0 : List Tapi_Branch) (x1 : List (List UInt8)) : ∀ r, m_interchangeref3_Inside fu x0 x1 = some r → PureSpec Tryz.prog 28 [.slice (List.map rTapi_Branch x0), .slice (List.map rowS x1)] (.slice (List.map (rowL rTapi_Branch) r)) := ((sims_G6_0_1 fu) x0 x1).2

/-- interchange/kit.IsTag -/
def sc_kit_IsTag : SC :=
  (.seq (.reg [.r 2 (.mv (.c (.d (.bool false))))])
  (.seq (.reg (.r 3 (.mv (.t 0)) :: .r 4 (.lenT (.t 3)) :: .r 5 (.bin .geq (.t 4) (.c (.d (.int .i64 2)))) :: .r 6 (.mv (.t 5)) :: gapp [7, 8, 9] 6 true (.r 7 (.mv (.t 0)) :: .r 8 (.lenT (.t 7)) :: .r 9 (.bin .leq (.t 8) (.c (.d (.int .i64 6)))) :: []) (.r 10 (.pick (.t 6) (.t 9) (.c (.d (.bool false)))) :: .r 11 (.mv (.t 10)) :: gapp [12, 13, 14, 15] 11 true (.r 12 (.mv (.t 0)) :: .r 13 (.sidx (.t 12) (.c (.d (.int .i64 0)))) :: .c 14 (.f 70) [.c (.d (.str [65, 66, 67, 68, 69, 70, 71, 72, 73, 74, 75, 76, 77, 78, 79, 80, 81, 82, 83, 84, 85, 86, 87, 88, 89, 90])), .t 13] :: .r 15 (.bin .geq (.t 14) (.c (.d (.int .i64 0)))) :: []) (.r 16 (.pick (.t 11) (.t 15) (.c (.d (.bool false)))) :: .r 17 (.mv (.t 16)) :: gapp [18, 19] 17 true (.r 18 (.mv (.t 0)) :: .c 19 (.f 71) [.t 18] :: []) (.r 20 (.pick (.t 17) (.t 19) (.c (.d (.bool false)))) :: .r 2 (.mv (.t 20)) :: [])))))
  .ret))
theorem fit_kit_IsTag : fits Tryz.prog 42 Tryz.f42 sc_kit_IsTag [.t 2] 1 = true := by kernel_rfl

/-- interchange/kit.IsText -/
def sc_kit_IsText : SC :=
  (.seq (.reg [.r 2 (.mv (.c (.d (.bool false))))])
  (.seq (.reg (.r 3 (.mv (.t 0)) :: .r 4 (.lenT (.t 3)) :: .r 5 (.bin .leq (.t 4) (.c (.d (.int .i64 1000)))) :: .r 6 (.mv (.t 5)) :: gapp [7, 8] 6 true (.r 7 (.mv (.t 0)) :: .c 8 (.f 62) [.t 7, .c (.d (.int .u8 32)), .c (.d (.int .u8 126))] :: []) (.r 9 (.pick (.t 6) (.t 8) (.c (.d (.bool false)))) :: .r 2 (.mv (.t 9)) :: [])))
  .ret))
theorem fit_kit_IsText : fits Tryz.prog 155 Tryz.f155 sc_kit_IsText [.t 2] 1 = true := by kernel_rfl

/-- interchange/interchangeref2.IsTag -/
def sc_interchangeref2_IsTag : SC :=
  (.seq (.reg [.r 2 (.mv (.c (.d (.bool false))))])
  (.seq (.reg (.r 3 (.mv (.t 0)) :: .r 4 (.lenT (.t 3)) :: .r 5 (.bin .geq (.t 4) (.c (.d (.int .i64 2)))) :: .r 6 (.mv (.t 5)) :: gapp [7, 8] 6 true (.r 7 (.mv (.t 0)) :: .c 8 (.f 75) [.t 7] :: []) (.r 9 (.pick (.t 6) (.t 8) (.c (.d (.bool false)))) :: .r 2 (.mv (.t 9)) :: [])))
  .ret))
theorem fit_interchangeref2_IsTag : fits Tryz.prog 49 Tryz.f49 sc_interchangeref2_IsTag [.t 2] 1 = true := by kernel_rfl

def sc_interchangeref2_checkElement_L1 : SC :=
  (.seq (.seq (.reg [.r 35 (.mv (.t 4)),
     .r 36 (.fld 0 (.t 1)),
     .o 37 (.ld1 (.t 36)),
     .r 38 (.mv (.t 3)),
     .r 39 (.idx 1 (.t 37) (.t 38)),
     .o 40 (.ld1 (.t 39)),
     .r 41 (.len (.t 40)),
     .r 42 (.bin .lss (.t 35) (.t 41))])
  (.cond (.t 42)
    .skip
    (.exit 2)))
  (.seq (.block 3 (.seq (.reg [.r 45 (.fld 0 (.t 1)),
       .o 46 (.ld1 (.t 45)),
       .r 47 (.mv (.t 3)),
       .r 48 (.idx 1 (.t 46) (.t 47)),
       .o 49 (.ld1 (.t 48)),
       .r 50 (.mv (.t 4)),
       .r 51 (.idx 1 (.t 49) (.t 50)),
       .o 52 (.ld1 (.t 51)),
       .c 53 (.f 129) [.t 52],
       .r 5 (.mv (.t 53))])
    (.seq (.reg [.r 54 (.mv (.t 5)),
       .r 55 (.bin .neq (.t 54) (.c (.d (.int .i64 0))))])
    (.cond (.t 55)
      (.seq (.reg [.r 56 (.mv (.t 5)),
         .r 2 (.mv (.t 56))])
      .ret)
      .skip))))
  (.reg [.r 43 (.mv (.t 4)),
     .r 44 (.bin .add (.t 43) (.c (.d (.int .i64 1)))),
     .r 4 (.mv (.t 44))])))
def sc_interchangeref2_checkElement_B1 : SC := .block 2 (.loop sc_interchangeref2_checkElement_L1)
def sc_interchangeref2_checkElement_L2 : SC :=
  (.seq (.seq (.reg [.r 14 (.mv (.t 3)),
     .r 15 (.fld 0 (.t 1)),
     .o 16 (.ld1 (.t 15)),
     .r 17 (.len (.t 16)),
     .r 18 (.bin .lss (.t 14) (.t 17))])
  (.cond (.t 18)
    .skip
    (.exit 0)))
  (.seq (.block 1 (.seq (.seq (.reg [.r 21 (.fld 0 (.t 1)),
       .o 22 (.ld1 (.t 21)),
       .r 23 (.mv (.t 3)),
       .r 24 (.idx 1 (.t 22) (.t 23)),
       .o 25 (.ld1 (.t 24)),
       .r 26 (.len (.t 25)),
       .r 27 (.bin .eql (.t 26) (.c (.d (.int .i64 0))))])
    (.cond (.t 27)
      (.seq (.reg [.r 2 (.mv (.c (.d (.int .i64 9))))])
      .ret)
      .skip))
    (.seq (.seq (.reg [.r 28 (.fld 0 (.t 1)),
       .o 29 (.ld1 (.t 28)),
       .r 30 (.mv (.t 3)),
       .r 31 (.idx 1 (.t 29) (.t 30)),
       .o 32 (.ld1 (.t 31)),
       .r 33 (.len (.t 32)),
       .r 34 (.bin .gtr (.t 33) (.c (.d (.int .i64 20))))])
    (.cond (.t 34)
      (.seq (.reg [.r 2 (.mv (.c (.d (.int .i64 2))))])
      .ret)
      .skip))
    (.seq (.reg [.r 4 (.mv (.c (.d (.int .i64 0))))])
    sc_interchangeref2_checkElement_B1))))
  (.reg [.r 19 (.mv (.t 3)),
     .r 20 (.bin .add (.t 19) (.c (.d (.int .i64 1)))),
     .r 3 (.mv (.t 20))])))
def sc_interchangeref2_checkElement_B2 : SC := .block 0 (.loop sc_interchangeref2_checkElement_L2)
/-- interchange/interchangeref2.checkElement -/
def sc_interchangeref2_checkElement : SC :=
  (.seq (.reg [.r 1 (.boxI (.t 0)),
     .r 2 (.mv (.c (.d (.int .i64 0))))])
  (.seq (.seq (.reg [.r 6 (.fld 0 (.t 1)),
     .o 7 (.ld1 (.t 6)),
     .r 8 (.len (.t 7)),
     .r 9 (.bin .eql (.t 8) (.c (.d (.int .i64 0))))])
  (.cond (.t 9)
    (.seq (.reg [.r 2 (.mv (.c (.d (.int .i64 9))))])
    .ret)
    .skip))
  (.seq (.seq (.reg [.r 10 (.fld 0 (.t 1)),
     .o 11 (.ld1 (.t 10)),
     .r 12 (.len (.t 11)),
     .r 13 (.bin .gtr (.t 12) (.c (.d (.int .i64 20))))])
  (.cond (.t 13)
    (.seq (.reg [.r 2 (.mv (.c (.d (.int .i64 2))))])
    .ret)
    .skip))
  (.seq (.seq (.reg [.r 3 (.mv (.c (.d (.int .i64 0))))])
  sc_interchangeref2_checkElement_B2)
  (.seq (.reg [.r 2 (.mv (.c (.d (.int .i64 0))))])
  .ret)))))
theorem fit_interchangeref2_checkElement : fits Tryz.prog 101 Tryz.f101 sc_interchangeref2_checkElement [.t 2] 1 = true := by kernel_rfl

def sc_interchangeref2_SameSegment_L1 : SC :=
  (.seq (.seq (.reg [.r 47 (.mv (.t 8)),
     .r 48 (.mv (.t 6)),
     .r 49 (.len (.t 48)),
     .r 50 (.bin .lss (.t 47) (.t 49))])
  (.cond (.t 50)
    .skip
    (.exit 2)))
  (.seq (.block 3 (.seq (.regD [.r 53 (.mv (.t 6)),
       .r 54 (.mv (.t 8)),
       .r 55 (.idx 1 (.t 53) (.t 54)),
       .r 56 (.ld1 (.t 55)),
       .r 57 (.mv (.t 7)),
       .r 58 (.mv (.t 8)),
       .r 59 (.idx 1 (.t 57) (.t 58)),
       .r 60 (.ld1 (.t 59)),
       .c 61 (.f 54) [.t 56, .t 60],
       .r 62 (.not (.t 61))])
    (.cond (.t 62)
      (.seq (.reg [.r 4 (.mv (.c (.d (.bool false))))])
      .ret)
      .skip)))
  (.reg [.r 51 (.mv (.t 8)),
     .r 52 (.bin .add (.t 51) (.c (.d (.int .i64 1)))),
     .r 8 (.mv (.t 52))])))
def sc_interchangeref2_SameSegment_B1 : SC := .block 2 (.loop sc_interchangeref2_SameSegment_L1)
def sc_interchangeref2_SameSegment_L2 : SC :=
  (.seq (.seq (.reg [.r 23 (.mv (.t 5)),
     .r 24 (.fld 1 (.t 2)),
     .o 25 (.ld1 (.t 24)),
     .r 26 (.len (.t 25)),
     .r 27 (.bin .lss (.t 23) (.t 26))])
  (.cond (.t 27)
    .skip
    (.exit 0)))
  (.seq (.block 1 (.seq (.regD [.r 30 (.fld 1 (.t 2)),
       .r 31 (.ld1 (.t 30)),
       .r 32 (.mv (.t 5)),
       .r 33 (.idx 1 (.t 31) (.t 32)),
       .r 34 (.fld 0 (.t 33)),
       .r 35 (.ld1 (.t 34)),
       .r 36 (.fld 1 (.t 3)),
       .r 37 (.ld1 (.t 36)),
       .r 38 (.mv (.t 5)),
       .r 39 (.idx 1 (.t 37) (.t 38)),
       .r 40 (.fld 0 (.t 39)),
       .r 41 (.ld1 (.t 40)),
       .r 6 (.mv (.t 35)),
       .r 7 (.mv (.t 41))])
    (.seq (.seq (.reg [.r 42 (.mv (.t 6)),
       .r 43 (.len (.t 42)),
       .r 44 (.mv (.t 7)),
       .r 45 (.len (.t 44)),
       .r 46 (.bin .neq (.t 43) (.t 45))])
    (.cond (.t 46)
      (.seq (.reg [.r 4 (.mv (.c (.d (.bool false))))])
      .ret)
      .skip))
    (.seq (.reg [.r 8 (.mv (.c (.d (.int .i64 0))))])
    sc_interchangeref2_SameSegment_B1))))
  (.reg [.r 28 (.mv (.t 5)),
     .r 29 (.bin .add (.t 28) (.c (.d (.int .i64 1)))),
     .r 5 (.mv (.t 29))])))
def sc_interchangeref2_SameSegment_B2 : SC := .block 0 (.loop sc_interchangeref2_SameSegment_L2)
/-- interchange/interchangeref2.SameSegment -/
def sc_interchangeref2_SameSegment : SC :=
  (.seq (.reg [.r 2 (.boxI (.t 0)),
     .r 3 (.boxI (.t 1)),
     .r 4 (.mv (.c (.d (.bool false))))])
  (.seq (.seq (.reg (.r 9 (.fld 0 (.t 2)) :: .o 10 (.ld1 (.t 9)) :: .r 11 (.fld 0 (.t 3)) :: .o 12 (.ld1 (.t 11)) :: .r 13 (.bin .neq (.t 10) (.t 12)) :: .r 14 (.mv (.t 13)) :: gapp [15, 16, 17, 18, 19, 20, 21] 14 false (.r 15 (.fld 1 (.t 2)) :: .r 16 (.ld1 (.t 15)) :: .r 17 (.len (.t 16)) :: .r 18 (.fld 1 (.t 3)) :: .r 19 (.ld1 (.t 18)) :: .r 20 (.len (.t 19)) :: .r 21 (.bin .neq (.t 17) (.t 20)) :: []) (.r 22 (.pick (.t 14) (.c (.d (.bool true))) (.t 21)) :: [])))
  (.cond (.t 22)
    (.seq (.reg [.r 4 (.mv (.c (.d (.bool false))))])
    .ret)
    .skip))
  (.seq (.seq (.reg [.r 5 (.mv (.c (.d (.int .i64 0))))])
  sc_interchangeref2_SameSegment_B2)
  (.seq (.reg [.r 4 (.mv (.c (.d (.bool true))))])
  .ret))))
theorem fit_interchangeref2_SameSegment : fits Tryz.prog 29 Tryz.f29 sc_interchangeref2_SameSegment [.t 4] 2 = true := by kernel_rfl

set_option maxRecDepth 100000 in
set_option maxHeartbeats 40000000 in
noncomputable def sims_G6_1_0 : (∀ (x0 : List UInt8), {m : Option (Bool) // ∀ r, m = some r → PureSpec Tryz.prog 42 [.str x0] (.bool r)}) × (∀ (x0 : List UInt8), {m : Option (Bool) // ∀ r, m = some r → PureSpec Tryz.prog 155 [.str x0] (.bool r)}) × (∀ (x0 : List UInt8), {m : Option (Bool) // ∀ r, m = some r → PureSpec Tryz.prog 49 [.str x0] (.bool r)}) × (∀ (x0 : Tapi_Element), {m : Option (Int) // ∀ r, m = some r → PureSpec Tryz.prog 101 [.agg (rTapi_Element x0)] (.int .i64 r)}) × (∀ (x0 : Tapi_Segment) (x1 : Tapi_Segment), {m : Option (Bool) // ∀ r, m = some r → PureSpec Tryz.prog 29 [.agg (rTapi_Segment x0), .agg (rTapi_Segment x1)] (.bool r)}) := by
  refine ⟨?g0, ?g1, ?g2, ?g3, ?g4⟩
  case' g0 => (intro x0; apply Subtype.mk; intro r hm; apply pure_walk Tryz.func42 fit_kit_IsTag; unfold sc_kit_IsTag)
  case' g1 => (intro x0; apply Subtype.mk; intro r hm; apply pure_walk Tryz.func155 fit_kit_IsText; unfold sc_kit_IsText)
  case' g2 => (intro x0; apply Subtype.mk; intro r hm; apply pure_walk Tryz.func49 fit_interchangeref2_IsTag; unfold sc_interchangeref2_IsTag)
  case' g3 => (intro x0; apply Subtype.mk; intro r hm; apply pure_walk Tryz.func101 fit_interchangeref2_checkElement; unfold sc_interchangeref2_checkElement)
  case' g4 => (intro x0 x1; apply Subtype.mk; intro r hm; apply pure_walk Tryz.func29 fit_interchangeref2_SameSegment; unfold sc_interchangeref2_SameSegment)
  all_goals (repeat' (first | with_reducible refine W_seq ?_ | with_reducible refine W_reg ?_ | with_reducible refine W_regD ?_ | with_reducible refine W_block ?_ | with_reducible refine W_skip ?_ | with_reducible refine W_ret ?_ | with_reducible refine W_exit ?_ | with_reducible refine O_nil ?_ | with_reducible refine K_seq ?_ | with_reducible refine K_seqE ?_ | with_reducible refine K_seqR ?_ | with_reducible refine K_block ?_ | with_reducible refine K_blockR ?_ | with_reducible refine K_blockE ?_ | ((with_reducible apply K_blockN); decide) | with_reducible refine O_o2r ?_ | ((with_reducible apply O_idxr hm); (iterate 2 (simp only [push_cast, seval]; rfl)); (intro _; rfl); intro e hm) | ((with_reducible apply O_idxVr hm); (iterate 3 (simp only [push_cast, seval]; rfl)); intro e hm) | ((with_reducible apply O_sidxr hm); (iterate 2 (simp only [push_cast, seval]; rfl)); intro e hm) | ((with_reducible apply O_r); (simp only [push_cast, seval]; rfl); (first | exact trivial | omega)) | ((with_reducible apply O_ldV1r hm); (iterate 2 (simp only [push_cast, seval]; rfl)); (intro _; rfl); intro e hm) | ((with_reducible apply O_strr hm); (iterate 2 (simp only [push_cast, seval]; rfl)); intro hm) | ((with_reducible apply O_and hm); (simp only [push_cast, seval]; rfl); rfl; intro v hm; rotate_left; intro v g hm) | ((with_reducible apply O_or hm); (simp only [push_cast, seval]; rfl); rfl; intro v hm; rotate_left; intro v g hm) | ((with_reducible apply W_condT); (focus (simp only [push_cast, seval]; done))) | ((with_reducible apply W_condF); (focus (simp only [push_cast, seval]; done))) | ((with_reducible apply O_cF hm); (simp only [push_cast, seval]; rfl); (first | apply spec_strings_IndexByte _ _ | apply spec_kit_IsTagPart _ | apply spec_kit_InBytes _ _ _ | apply spec_interchangeref2_beginsTag _ | apply spec_interchangeref2_checkText _ | apply spec_interchangeref2_SameTexts _ _); (any_goals ((repeat' (first | rfl | (with_reducible first | apply fT_Tapi_Segment | apply fT_Tapi_Element | apply f_optN | apply f_optS | apply f_some | apply f_tup | apply f_agg | apply f_ptr | apply f_fn | apply dv_slice | apply sv_d | apply f_cons | apply fold_nil | apply fold_cons | apply fold_app | apply f_rowI | apply f_rowY | apply f_rowS | apply f_rowB | apply f_rowL) | (with_reducible apply f_byte; decide))); done)); intro x hm) | ((with_reducible apply S_condB hm); (simp only [push_cast, seval]; rfl); intro hm; rotate_left; intro hm) | ((with_reducible apply K_endS hm); (focus (simp only [resOf, resL, RV.get, push_cast, seval]; rfl)); (focus ((repeat' (first | rfl | (with_reducible first | apply fT_Tapi_Segment | apply fT_Tapi_Element | apply f_optN | apply f_optS | apply f_some | apply f_tup | apply f_agg | apply f_ptr | apply f_fn | apply dv_slice | apply sv_d | apply f_cons | apply fold_nil | apply fold_cons | apply fold_app | apply f_rowI | apply f_rowY | apply f_rowS | apply f_rowB | apply f_rowL) | (with_reducible apply f_byte; decide))); done))) | ((with_reducible apply K_bool hm); (simp only [push_cast, seval]; rfl)) | ((with_reducible apply K_leave hm); intro r hm) | ((with_reducible apply K_leaveR hm); intro r hm) | ((apply S_loopY (b := 2) (X := sc_interchangeref2_checkElement_B1) (x := sc_interchangeref2_checkElement_L1) rfl (fun (c : SV × SV) (s : Int) => st [(1, c.1), (3, c.2), (4, .d (.int .i64 s))] []) (c := (_, _)) (s0 := _) hm); (focus (first | (dsimp only; done) | (dsimp only; rfl) | rfl)); (with_reducible refine Then.mk ?_ ?_)) | ((apply S_loopY (b := 0) (X := sc_interchangeref2_checkElement_B2) (x := sc_interchangeref2_checkElement_L2) rfl (fun (c : SV) (s : Int) => st [(1, c), (3, .d (.int .i64 s))] []) (c := _) (s0 := _) hm); (focus (first | (dsimp only; done) | (dsimp only; rfl) | rfl)); (with_reducible refine Then.mk ?_ ?_)) | ((apply S_loopY (b := 2) (X := sc_interchangeref2_SameSegment_B1) (x := sc_interchangeref2_SameSegment_L1) rfl (fun (c : SV × SV × SV × SV × SV) (s : Int) => st [(2, c.1), (3, c.2.1), (5, c.2.2.1), (6, c.2.2.2.1), (7, c.2.2.2.2), (8, .d (.int .i64 s))] []) (c := (_, _, _, _, _)) (s0 := _) hm); (focus (first | (dsimp only; done) | (dsimp only; rfl) | rfl)); (with_reducible refine Then.mk ?_ ?_)) | ((apply S_loopY (b := 0) (X := sc_interchangeref2_SameSegment_B2) (x := sc_interchangeref2_SameSegment_L2) rfl (fun (c : SV × SV) (s : Int) => st [(2, c.1), (3, c.2), (5, .d (.int .i64 s))] []) (c := (_, _)) (s0 := _) hm); (focus (first | (dsimp only; done) | (dsimp only; rfl) | rfl)); (with_reducible refine Then.mk ?_ ?_)) | ((apply K_next (s' := _) hm); (focus (first | (dsimp only; done) | (dsimp only; rfl) | rfl))) | ((apply K_brk (s' := _) hm); (focus (first | (dsimp only; done) | (dsimp only; rfl) | rfl))) | (((with_reducible apply K_brkN hm); (focus decide); intro r hm)) | (((with_reducible apply K_brkR hm); intro r hm)) | (((with_reducible apply LoopB.of); (focus (first | (dsimp only; done) | (dsimp only; rfl) | rfl)); (focus ((intro _; repeat' (first | with_reducible exact impC_end | with_reducible exact impC_endF | with_reducible refine impC_seq ?_ | with_reducible refine impC_block ?_ | ((with_reducible refine impC_rnd ?_); intro _) | ((with_reducible refine impC_brk ?_); intro _))))); (intro s o hm; first | unfold sc_interchangeref2_checkElement_L1 | unfold sc_interchangeref2_checkElement_L2 | unfold sc_interchangeref2_SameSegment_L1 | unfold sc_interchangeref2_SameSegment_L2); rotate_left; intro s hm)) | (((apply imp_stT; (repeat' (first | with_reducible exact keepT_nil | with_reducible exact keepC_nil | with_reducible apply keepT_cons | with_reducible apply keepC_cons | ((with_reducible apply svle_eq); (focus (first | (simp only [push_cast, seval]; rfl) | rfl)); (focus ((repeat' (first | rfl | (with_reducible first | apply fT_Tapi_Segment | apply fT_Tapi_Element | apply f_optN | apply f_optS | apply f_some | apply f_tup | apply f_agg | apply f_ptr | apply f_fn | apply dv_slice | apply sv_d | apply f_cons | apply fold_nil | apply fold_cons | apply fold_app | apply f_rowI | apply f_rowY | apply f_rowS | apply f_rowB | apply f_rowL) | (with_reducible apply f_byte; decide))); done))) | ((with_reducible apply svle_td); (focus (first | (simp only [push_cast, seval]; rfl) | rfl)); (focus (first | (simp only [push_cast, seval]; rfl) | rfl)); (focus ((repeat' (first | rfl | (with_reducible first | apply fT_Tapi_Segment | apply fT_Tapi_Element | apply f_optN | apply f_optS | apply f_some | apply f_tup | apply f_agg | apply f_ptr | apply f_fn | apply dv_slice | apply sv_d | apply f_cons | apply fold_nil | apply fold_cons | apply fold_app | apply f_rowI | apply f_rowY | apply f_rowS | apply f_rowB | apply f_rowL) | (with_reducible apply f_byte; decide))); done))) | ((with_reducible apply chle_eq); (focus (first | (simp only [push_cast, seval]; rfl) | rfl)); (first | with_reducible exact chle_rfl rfl | with_reducible exact chle_map0 | with_reducible apply chle_vec | with_reducible apply chle_box)) | (with_reducible first | apply cT_Tapi_Segment | apply cT_Tapi_Element | apply r_shS | apply r_shI | apply r_rflO | apply r_oneO | apply r_appO | apply r_nilO | apply c_ownN | apply c_ownL | apply vc_rfl | apply vc_nil | apply vc_cons | apply r_rfl | apply r_rows | apply r_nil | apply r_app | apply r_cons | apply c_rowI | apply c_rowY | apply c_rowS | apply c_rowB | apply c_rowL))); done)))))
noncomputable def m_kit_IsTag (x0 : List UInt8) : Option (Bool) := (sims_G6_1_0.1 x0).1
theorem spec_kit_IsTag (x0 : List UInt8) : ∀ r, m_kit_IsTag x0 = some r → PureSpec Tryz.prog 42 [.str x0] (.bool r) := (sims_G6_1_0.1 x0).2
noncomputable def m_kit_IsText (x0 : List UInt8) : Option (Bool) := (sims_G6_1_0.2.1 x0).1
theorem spec_kit_IsText (x0 : List UInt8) : ∀ r, m_kit_IsText x0 = some r → PureSpec Tryz.prog 155 [.str x0] (.bool r) := (sims_G6_1_0.2.1 x0).2
noncomputable def m_interchangeref2_IsTag (x0 : List UInt8) : Option (Bool) := (sims_G6_1_0.2.2.1 x0).1
theorem spec_interchangeref2_IsTag (x0 : List UInt8) : ∀ r, m_interchangeref2_IsTag x0 = some r → PureSpec Tryz.prog 49 [.str x0] (.bool r) := (sims_G6_1_0.2.2.1 x0).2
noncomputable def m_interchangeref2_checkElement (x0 : Tapi_Element) : Option (Int) := (sims_G6_1_0.2.2.2.1 x0).1
theorem spec_interchangeref2_checkElement (x0 : Tapi_Element) : ∀ r, m_interchangeref2_checkElement x0 = some r → PureSpec Tryz.prog 101 [.agg (rTapi_Element x0)] (.int .i64 r) := (sims_G6_1_0.2.2.2.1 x0).2
noncomputable def m_interchangeref2_SameSegment (x0 : Tapi_Segment) (x1 : Tapi_Segment) : Option (Bool) := (sims_G6_1_0.2.2.2.2 x0 x1).1
theorem spec_interchangeref2_SameSegment (x0 : Tapi_Segment) (x1 : Tapi_Segment) : ∀ r, m_interchangeref2_SameSegment x0 x1 = some r → PureSpec Tryz.prog 29 [.agg (rTapi_Segment x0), .agg (rTapi_Segment x1)] (.bool r) := (sims_G6_1_0.2.2.2.2 x0 x1).2

/-- interchange/wire.textFault -/
def sc_wire_textFault : SC :=
  (.seq (.reg [.r 2 (.mv (.c (.d (.int .i64 0))))])
  (.seq (.seq (.reg [.r 3 (.mv (.t 0)),
     .r 4 (.lenT (.t 3)),
     .r 5 (.bin .gtr (.t 4) (.c (.d (.int .i64 1000))))])
  (.cond (.t 5)
    (.seq (.reg [.r 2 (.mv (.c (.d (.int .i64 2))))])
    .ret)
    .skip))
  (.seq (.seq (.reg [.r 6 (.mv (.t 0)),
     .c 7 (.f 155) [.t 6],
     .r 8 (.not (.t 7))])
  (.cond (.t 8)
    (.seq (.reg [.r 2 (.mv (.c (.d (.int .i64 3))))])
    .ret)
    .skip))
  (.seq (.reg [.r 2 (.mv (.c (.d (.int .i64 0))))])
  .ret))))
theorem fit_wire_textFault : fits Tryz.prog 138 Tryz.f138 sc_wire_textFault [.t 2] 1 = true := by kernel_rfl

def sc_interchangeref2_CheckOne_L1 : SC :=
  (.seq (.seq (.reg [.r 13 (.mv (.t 3)),
     .r 14 (.fld 1 (.t 1)),
     .o 15 (.ld1 (.t 14)),
     .r 16 (.len (.t 15)),
     .r 17 (.bin .lss (.t 13) (.t 16))])
  (.cond (.t 17)
    .skip
    (.exit 0)))
  (.seq (.block 1 (.seq (.reg [.r 20 (.fld 1 (.t 1)),
       .o 21 (.ld1 (.t 20)),
       .r 22 (.mv (.t 3)),
       .r 23 (.idx 1 (.t 21) (.t 22)),
       .o 24 (.ldA 1 (.t 23)),
       .c 25 (.f 101) [.t 24],
       .r 4 (.mv (.t 25))])
    (.seq (.reg [.r 26 (.mv (.t 4)),
       .r 27 (.bin .neq (.t 26) (.c (.d (.int .i64 0))))])
    (.cond (.t 27)
      (.seq (.reg [.r 28 (.mv (.t 4)),
         .r 2 (.mv (.t 28))])
      .ret)
      .skip))))
  (.reg [.r 18 (.mv (.t 3)),
     .r 19 (.bin .add (.t 18) (.c (.d (.int .i64 1)))),
     .r 3 (.mv (.t 19))])))
def sc_interchangeref2_CheckOne_B1 : SC := .block 0 (.loop sc_interchangeref2_CheckOne_L1)
/-- interchange/interchangeref2.CheckOne -/
def sc_interchangeref2_CheckOne : SC :=
  (.seq (.reg [.r 1 (.boxI (.t 0)),
     .r 2 (.mv (.c (.d (.int .i64 0))))])
  (.seq (.seq (.reg [.r 5 (.fld 0 (.t 1)),
     .o 6 (.ld1 (.t 5)),
     .c 7 (.f 49) [.t 6],
     .r 8 (.not (.t 7))])
  (.cond (.t 8)
    (.seq (.reg [.r 2 (.mv (.c (.d (.int .i64 5))))])
    .ret)
    .skip))
  (.seq (.seq (.reg [.r 9 (.fld 1 (.t 1)),
     .o 10 (.ld1 (.t 9)),
     .r 11 (.len (.t 10)),
     .r 12 (.bin .gtr (.t 11) (.c (.d (.int .i64 50))))])
  (.cond (.t 12)
    (.seq (.reg [.r 2 (.mv (.c (.d (.int .i64 2))))])
    .ret)
    .skip))
  (.seq (.seq (.reg [.r 3 (.mv (.c (.d (.int .i64 0))))])
  sc_interchangeref2_CheckOne_B1)
  (.seq (.reg [.r 2 (.mv (.c (.d (.int .i64 0))))])
  .ret)))))
theorem fit_interchangeref2_CheckOne : fits Tryz.prog 74 Tryz.f74 sc_interchangeref2_CheckOne [.t 2] 1 = true := by kernel_rfl

set_option maxRecDepth 100000 in
set_option maxHeartbeats 40000000 in
noncomputable def sims_G6_2_0 : (∀ (x0 : List UInt8), {m : Option (Int) // ∀ r, m = some r → PureSpec Tryz.prog 138 [.str x0] (.int .i64 r)}) × (∀ (x0 : Tapi_Segment), {m : Option (Int) // ∀ r, m = some r → PureSpec Tryz.prog 74 [.agg (rTapi_Segment x0)] (.int .i64 r)}) := by
  refine ⟨?g0, ?g1⟩
  case' g0 => (intro x0; apply Subtype.mk; intro r hm; apply pure_walk Tryz.func138 fit_wire_textFault; unfold sc_wire_textFault)
  case' g1 => (intro x0; apply Subtype.mk; intro r hm; apply pure_walk Tryz.func74 fit_interchangeref2_CheckOne; unfold sc_interchangeref2_CheckOne)
  all_goals (repeat' (first | with_reducible refine W_seq ?_ | with_reducible refine W_reg ?_ | with_reducible refine W_block ?_ | with_reducible refine W_skip ?_ | with_reducible refine W_ret ?_ | with_reducible refine W_exit ?_ | with_reducible refine O_nil ?_ | with_reducible refine K_seq ?_ | with_reducible refine K_seqE ?_ | with_reducible refine K_seqR ?_ | with_reducible refine K_block ?_ | with_reducible refine K_blockR ?_ | with_reducible refine K_blockE ?_ | ((with_reducible apply K_blockN); decide) | with_reducible refine O_o2r ?_ | ((with_reducible apply O_idxr hm); (iterate 2 (simp only [push_cast, seval]; rfl)); (intro _; rfl); intro e hm) | ((with_reducible apply O_idxVr hm); (iterate 3 (simp only [push_cast, seval]; rfl)); intro e hm) | ((with_reducible apply O_r); (simp only [push_cast, seval]; rfl); (first | exact trivial | omega)) | ((with_reducible apply O_ldV1r hm); (iterate 2 (simp only [push_cast, seval]; rfl)); (intro _; rfl); intro e hm) | ((with_reducible apply O_ldAVr hm); (iterate 2 (simp only [push_cast, seval]; rfl)); (intro _; rfl); intro e hm) | ((with_reducible apply O_strr hm); (iterate 2 (simp only [push_cast, seval]; rfl)); intro hm) | ((with_reducible apply W_condT); (focus (simp only [push_cast, seval]; done))) | ((with_reducible apply W_condF); (focus (simp only [push_cast, seval]; done))) | ((with_reducible apply O_cF hm); (simp only [push_cast, seval]; rfl); (first | apply spec_kit_IsText _ | apply spec_interchangeref2_IsTag _ | apply spec_interchangeref2_checkElement _); (any_goals ((repeat' (first | rfl | (with_reducible first | apply fT_Tapi_Segment | apply fT_Tapi_Element | apply f_optN | apply f_optS | apply f_some | apply f_tup | apply f_agg | apply f_ptr | apply f_fn | apply dv_slice | apply sv_d | apply f_cons | apply fold_nil | apply fold_cons | apply fold_app | apply f_rowI | apply f_rowY | apply f_rowS | apply f_rowB | apply f_rowL) | (with_reducible apply f_byte; decide))); done)); intro x hm) | ((with_reducible apply S_condB hm); (simp only [push_cast, seval]; rfl); intro hm; rotate_left; intro hm) | ((with_reducible apply K_endS hm); (focus (simp only [resOf, resL, RV.get, push_cast, seval]; rfl)); (focus ((repeat' (first | rfl | (with_reducible first | apply fT_Tapi_Segment | apply fT_Tapi_Element | apply f_optN | apply f_optS | apply f_some | apply f_tup | apply f_agg | apply f_ptr | apply f_fn | apply dv_slice | apply sv_d | apply f_cons | apply fold_nil | apply fold_cons | apply fold_app | apply f_rowI | apply f_rowY | apply f_rowS | apply f_rowB | apply f_rowL) | (with_reducible apply f_byte; decide))); done))) | ((with_reducible apply K_leave hm); intro r hm) | ((with_reducible apply K_leaveR hm); intro r hm) | ((apply S_loopY (b := 0) (X := sc_interchangeref2_CheckOne_B1) (x := sc_interchangeref2_CheckOne_L1) rfl (fun (c : SV) (s : Int) => st [(1, c), (3, .d (.int .i64 s))] []) (c := _) (s0 := _) hm); (focus (first | (dsimp only; done) | (dsimp only; rfl) | rfl)); (with_reducible refine Then.mk ?_ ?_)) | ((apply K_next (s' := _) hm); (focus (first | (dsimp only; done) | (dsimp only; rfl) | rfl))) | ((apply K_brk (s' := _) hm); (focus (first | (dsimp only; done) | (dsimp only; rfl) | rfl))) | (((with_reducible apply K_brkN hm); (focus decide); intro r hm)) | (((with_reducible apply K_brkR hm); intro r hm)) | (((with_reducible apply LoopB.of); (focus (first | (dsimp only; done) | (dsimp only; rfl) | rfl)); (focus ((intro _; repeat' (first | with_reducible exact impC_end | with_reducible exact impC_endF | with_reducible refine impC_seq ?_ | with_reducible refine impC_block ?_ | ((with_reducible refine impC_rnd ?_); intro _) | ((with_reducible refine impC_brk ?_); intro _))))); (intro s o hm; first | unfold sc_interchangeref2_CheckOne_L1); rotate_left; intro s hm)) | (((apply imp_stT; (repeat' (first | with_reducible exact keepT_nil | with_reducible exact keepC_nil | with_reducible apply keepT_cons | with_reducible apply keepC_cons | ((with_reducible apply svle_eq); (focus (first | (simp only [push_cast, seval]; rfl) | rfl)); (focus ((repeat' (first | rfl | (with_reducible first | apply fT_Tapi_Segment | apply fT_Tapi_Element | apply f_optN | apply f_optS | apply f_some | apply f_tup | apply f_agg | apply f_ptr | apply f_fn | apply dv_slice | apply sv_d | apply f_cons | apply fold_nil | apply fold_cons | apply fold_app | apply f_rowI | apply f_rowY | apply f_rowS | apply f_rowB | apply f_rowL) | (with_reducible apply f_byte; decide))); done))) | ((with_reducible apply svle_td); (focus (first | (simp only [push_cast, seval]; rfl) | rfl)); (focus (first | (simp only [push_cast, seval]; rfl) | rfl)); (focus ((repeat' (first | rfl | (with_reducible first | apply fT_Tapi_Segment | apply fT_Tapi_Element | apply f_optN | apply f_optS | apply f_some | apply f_tup | apply f_agg | apply f_ptr | apply f_fn | apply dv_slice | apply sv_d | apply f_cons | apply fold_nil | apply fold_cons | apply fold_app | apply f_rowI | apply f_rowY | apply f_rowS | apply f_rowB | apply f_rowL) | (with_reducible apply f_byte; decide))); done))) | ((with_reducible apply chle_eq); (focus (first | (simp only [push_cast, seval]; rfl) | rfl)); (first | with_reducible exact chle_rfl rfl | with_reducible exact chle_map0 | with_reducible apply chle_vec | with_reducible apply chle_box)) | (with_reducible first | apply cT_Tapi_Segment | apply cT_Tapi_Element | apply r_shS | apply r_shI | apply r_rflO | apply r_oneO | apply r_appO | apply r_nilO | apply c_ownN | apply c_ownL | apply vc_rfl | apply vc_nil | apply vc_cons | apply r_rfl | apply r_rows | apply r_nil | apply r_app | apply r_cons | apply c_rowI | apply c_rowY | apply c_rowS | apply c_rowB | apply c_rowL))); done)))))
noncomputable def m_wire_textFault (x0 : List UInt8) : Option (Int) := (sims_G6_2_0.1 x0).1
theorem spec_wire_textFault (x0 : List UInt8) : ∀ r, m_wire_textFault x0 = some r → PureSpec Tryz.prog 138 [.str x0] (.int .i64 r) := (sims_G6_2_0.1 x0).2
noncomputable def m_interchangeref2_CheckOne (x0 : Tapi_Segment) : Option (Int) := (sims_G6_2_0.2 x0).1
theorem spec_interchangeref2_CheckOne (x0 : Tapi_Segment) : ∀ r, m_interchangeref2_CheckOne x0 = some r → PureSpec Tryz.prog 74 [.agg (rTapi_Segment x0)] (.int .i64 r) := (sims_G6_2_0.2 x0).2

def sc_interchangeref3_SameTree_L1 : SC :=
  (.seq (.seq (.reg [.r 11 (.mv (.t 5)),
     .r 12 (.mv (.t 0)),
     .r 13 (.len (.t 12)),
     .r 14 (.bin .lss (.t 11) (.t 13))])
  (.cond (.t 14)
    .skip
    (.exit 0)))
  (.seq (.block 1 (.seq (.regD (.r 17 (.mv (.t 0)) :: .r 18 (.mv (.t 5)) :: .r 19 (.idx 4 (.t 17) (.t 18)) :: .r 20 (.fld 0 (.t 19)) :: .r 21 (.ld1 (.t 20)) :: .r 22 (.mv (.t 1)) :: .r 23 (.mv (.t 5)) :: .r 24 (.idx 4 (.t 22) (.t 23)) :: .r 25 (.fld 0 (.t 24)) :: .r 26 (.ld1 (.t 25)) :: .r 27 (.bin .neq (.t 21) (.t 26)) :: .r 28 (.mv (.t 27)) :: gapp [29, 30, 31, 32, 33, 34, 35, 36, 37, 38, 39, 40] 28 false (.r 29 (.mv (.t 0)) :: .r 30 (.mv (.t 5)) :: .r 31 (.idx 4 (.t 29) (.t 30)) :: .r 32 (.fld 1 (.t 31)) :: .r 33 (.ldA 2 (.t 32)) :: .r 34 (.mv (.t 1)) :: .r 35 (.mv (.t 5)) :: .r 36 (.idx 4 (.t 34) (.t 35)) :: .r 37 (.fld 1 (.t 36)) :: .r 38 (.ldA 2 (.t 37)) :: .c 39 (.f 29) [.t 33, .t 38] :: .r 40 (.not (.t 39)) :: []) (.r 41 (.pick (.t 28) (.c (.d (.bool true))) (.t 40)) :: .r 42 (.mv (.t 41)) :: gapp [43, 44, 45, 46, 47, 48, 49, 50, 51, 52, 53, 54] 42 false (.r 43 (.mv (.t 0)) :: .r 44 (.mv (.t 5)) :: .r 45 (.idx 4 (.t 43) (.t 44)) :: .r 46 (.fld 3 (.t 45)) :: .r 47 (.ld1 (.t 46)) :: .r 48 (.mv (.t 1)) :: .r 49 (.mv (.t 5)) :: .r 50 (.idx 4 (.t 48) (.t 49)) :: .r 51 (.fld 3 (.t 50)) :: .r 52 (.ld1 (.t 51)) :: .c 53 (.f 12) [.t 47, .t 52] :: .r 54 (.not (.t 53)) :: []) (.r 55 (.pick (.t 42) (.c (.d (.bool true))) (.t 54)) :: []))))
    (.cond (.t 55)
      (.seq (.reg [.r 4 (.mv (.c (.d (.bool false))))])
      .ret)
      .skip)))
  (.reg [.r 15 (.mv (.t 5)),
     .r 16 (.bin .add (.t 15) (.c (.d (.int .i64 1)))),
     .r 5 (.mv (.t 16))])))
def sc_interchangeref3_SameTree_B1 : SC := .block 0 (.loop sc_interchangeref3_SameTree_L1)
/-- interchange/interchangeref3.SameTree -/
def sc_interchangeref3_SameTree : SC :=
  (.seq (.reg [.r 4 (.mv (.c (.d (.bool false))))])
  (.seq (.seq (.reg [.r 6 (.mv (.t 0)),
     .r 7 (.len (.t 6)),
     .r 8 (.mv (.t 1)),
     .r 9 (.len (.t 8)),
     .r 10 (.bin .neq (.t 7) (.t 9))])
  (.cond (.t 10)
    (.seq (.reg [.r 4 (.mv (.c (.d (.bool false))))])
    .ret)
    .skip))
  (.seq (.seq (.reg [.r 5 (.mv (.c (.d (.int .i64 0))))])
  sc_interchangeref3_SameTree_B1)
  (.seq (.reg [.r 4 (.mv (.c (.d (.bool true))))])
  .ret))))
theorem fit_interchangeref3_SameTree : fits Tryz.prog 12 Tryz.f12 sc_interchangeref3_SameTree [.t 4] 2 = true := by kernel_rfl

set_option maxRecDepth 100000 in
set_option maxHeartbeats 40000000 in
noncomputable def step_G6_2_1 : ((∀ (x0 : List Tapi_Branch) (x1 : List Tapi_Branch), {m : Option (Bool) // ∀ r, m = some r → PureSpec Tryz.prog 12 [.slice (List.map rTapi_Branch x0), .slice (List.map rTapi_Branch x1)] (.bool r)})) → ((∀ (x0 : List Tapi_Branch) (x1 : List Tapi_Branch), {m : Option (Bool) // ∀ r, m = some r → PureSpec Tryz.prog 12 [.slice (List.map rTapi_Branch x0), .slice (List.map rTapi_Branch x1)] (.bool r)})) := by
  intro ih
  have spec_interchangeref3_SameTree : ∀ (x0 : List Tapi_Branch) (x1 : List Tapi_Branch), ∀ r, (ih x0 x1).1 = some r → PureSpec Tryz.prog 12 [.slice (List.map rTapi_Branch x0), .slice (List.map rTapi_Branch x1)] (.bool r) := fun x0 x1 => (ih x0 x1).2
  (intro x0 x1; apply Subtype.mk; intro r hm; apply pure_walk Tryz.func12 fit_interchangeref3_SameTree; unfold sc_interchangeref3_SameTree)
  repeat' (first | with_reducible refine W_seq ?_ | with_reducible refine W_reg ?_ | with_reducible refine W_regD ?_ | with_reducible refine W_block ?_ | with_reducible refine W_skip ?_ | with_reducible refine W_ret ?_ | with_reducible refine W_exit ?_ | with_reducible refine O_nil ?_ | with_reducible refine K_seq ?_ | with_reducible refine K_seqE ?_ | with_reducible refine K_seqR ?_ | with_reducible refine K_block ?_ | with_reducible refine K_blockR ?_ | with_reducible refine K_blockE ?_ | ((with_reducible apply K_blockN); decide) | ((with_reducible apply O_idxr hm); (iterate 2 (simp only [push_cast, seval]; rfl)); (intro _; rfl); intro e hm) | ((with_reducible apply O_idxVr hm); (iterate 3 (simp only [push_cast, seval]; rfl)); intro e hm) | ((with_reducible apply O_r); (simp only [push_cast, seval]; rfl); (first | exact trivial | omega)) | ((with_reducible apply O_ldV1r hm); (iterate 2 (simp only [push_cast, seval]; rfl)); (intro _; rfl); intro e hm) | ((with_reducible apply O_ldAVr hm); (iterate 2 (simp only [push_cast, seval]; rfl)); (intro _; rfl); intro e hm) | ((with_reducible apply O_strr hm); (iterate 2 (simp only [push_cast, seval]; rfl)); intro hm) | ((with_reducible apply O_or hm); (simp only [push_cast, seval]; rfl); rfl; intro v hm; rotate_left; intro v g hm) | ((with_reducible apply W_condT); (focus (simp only [push_cast, seval]; done))) | ((with_reducible apply W_condF); (focus (simp only [push_cast, seval]; done))) | ((with_reducible apply O_cF hm); (simp only [push_cast, seval]; rfl); (first | apply spec_interchangeref2_SameSegment _ _ | apply spec_interchangeref3_SameTree _ _); (any_goals ((repeat' (first | rfl | (with_reducible first | apply fT_Tapi_Segment | apply fT_Tapi_Element | apply fT_Tapi_Branch | apply f_optN | apply f_optS | apply f_some | apply f_tup | apply f_agg | apply f_ptr | apply f_fn | apply dv_slice | apply sv_d | apply f_cons | apply fold_nil | apply fold_cons | apply fold_app | apply f_rowI | apply f_rowY | apply f_rowS | apply f_rowB | apply f_rowL) | (with_reducible apply f_byte; decide))); done)); intro x hm) | ((with_reducible apply S_condB hm); (simp only [push_cast, seval]; rfl); intro hm; rotate_left; intro hm) | ((with_reducible apply K_endS hm); (focus (simp only [resOf, resL, RV.get, push_cast, seval]; rfl)); (focus ((repeat' (first | rfl | (with_reducible first | apply fT_Tapi_Segment | apply fT_Tapi_Element | apply fT_Tapi_Branch | apply f_optN | apply f_optS | apply f_some | apply f_tup | apply f_agg | apply f_ptr | apply f_fn | apply dv_slice | apply sv_d | apply f_cons | apply fold_nil | apply fold_cons | apply fold_app | apply f_rowI | apply f_rowY | apply f_rowS | apply f_rowB | apply f_rowL) | (with_reducible apply f_byte; decide))); done))) | ((with_reducible apply K_bool hm); (simp only [push_cast, seval]; rfl)) | ((with_reducible apply K_leave hm); intro r hm) | ((with_reducible apply K_leaveR hm); intro r hm) | ((apply S_loopY (b := 0) (X := sc_interchangeref3_SameTree_B1) (x := sc_interchangeref3_SameTree_L1) rfl (fun (c : SV × SV) (s : Int) => st [(0, c.1), (1, c.2), (5, .d (.int .i64 s))] []) (c := (_, _)) (s0 := _) hm); (focus (first | (dsimp only; done) | (dsimp only; rfl) | rfl)); (with_reducible refine Then.mk ?_ ?_)) | ((apply K_next (s' := _) hm); (focus (first | (dsimp only; done) | (dsimp only; rfl) | rfl))) | ((apply K_brk (s' := _) hm); (focus (first | (dsimp only; done) | (dsimp only; rfl) | rfl))) | (((with_reducible apply K_brkN hm); (focus decide); intro r hm)) | (((with_reducible apply K_brkR hm); intro r hm)) | (((with_reducible apply LoopB.of); (focus (first | (dsimp only; done) | (dsimp only; rfl) | rfl)); (focus ((intro _; repeat' (first | with_reducible exact impC_end | with_reducible exact impC_endF | with_reducible refine impC_seq ?_ | with_reducible refine impC_block ?_ | ((with_reducible refine impC_rnd ?_); intro _) | ((with_reducible refine impC_brk ?_); intro _))))); (intro s o hm; first | unfold sc_interchangeref3_SameTree_L1); rotate_left; intro s hm)) | (((apply imp_stT; (repeat' (first | with_reducible exact keepT_nil | with_reducible exact keepC_nil | with_reducible apply keepT_cons | with_reducible apply keepC_cons | ((with_reducible apply svle_eq); (focus (first | (simp only [push_cast, seval]; rfl) | rfl)); (focus ((repeat' (first | rfl | (with_reducible first | apply fT_Tapi_Segment | apply fT_Tapi_Element | apply fT_Tapi_Branch | apply f_optN | apply f_optS | apply f_some | apply f_tup | apply f_agg | apply f_ptr | apply f_fn | apply dv_slice | apply sv_d | apply f_cons | apply fold_nil | apply fold_cons | apply fold_app | apply f_rowI | apply f_rowY | apply f_rowS | apply f_rowB | apply f_rowL) | (with_reducible apply f_byte; decide))); done))) | ((with_reducible apply svle_td); (focus (first | (simp only [push_cast, seval]; rfl) | rfl)); (focus (first | (simp only [push_cast, seval]; rfl) | rfl)); (focus ((repeat' (first | rfl | (with_reducible first | apply fT_Tapi_Segment | apply fT_Tapi_Element | apply fT_Tapi_Branch | apply f_optN | apply f_optS | apply f_some | apply f_tup | apply f_agg | apply f_ptr | apply f_fn | apply dv_slice | apply sv_d | apply f_cons | apply fold_nil | apply fold_cons | apply fold_app | apply f_rowI | apply f_rowY | apply f_rowS | apply f_rowB | apply f_rowL) | (with_reducible apply f_byte; decide))); done))) | ((with_reducible apply chle_eq); (focus (first | (simp only [push_cast, seval]; rfl) | rfl)); (first | with_reducible exact chle_rfl rfl | with_reducible exact chle_map0 | with_reducible apply chle_vec | with_reducible apply chle_box)) | (with_reducible first | apply cT_Tapi_Segment | apply cT_Tapi_Element | apply cT_Tapi_Branch | apply r_shS | apply r_shI | apply r_rflO | apply r_oneO | apply r_appO | apply r_nilO | apply c_ownN | apply c_ownL | apply vc_rfl | apply vc_nil | apply vc_cons | apply r_rfl | apply r_rows | apply r_nil | apply r_app | apply r_cons | apply c_rowI | apply c_rowY | apply c_rowS | apply c_rowB | apply c_rowL))); done))))
noncomputable def sims_G6_2_1 (fu : Nat) : (∀ (x0 : List Tapi_Branch) (x1 : List Tapi_Branch), {m : Option (Bool) // ∀ r, m = some r → PureSpec Tryz.prog 12 [.slice (List.map rTapi_Branch x0), .slice (List.map rTapi_Branch x1)] (.bool r)}) := Nat.rec (fun x0 x1 => ⟨none, fun r h => by cases h⟩) (fun _ ih => step_G6_2_1 ih) fu
noncomputable def m_interchangeref3_SameTree (fu : Nat) (x0 : List Tapi_Branch) (x1 : List Tapi_Branch) : Option (Bool) := ((sims_G6_2_1 fu) x0 x1).1
theorem m_interchangeref3_SameTree_fold (fu : Nat) (x0 : List Tapi_Branch) (x1 : List Tapi_Branch) : ((sims_G6_2_1 fu) x0 x1).1 = m_interchangeref3_SameTree fu x0 x1 := rfl
theorem m_interchangeref3_SameTree_succ (fu : Nat) (x0 : List Tapi_Branch) (x1 : List Tapi_Branch) : m_interchangeref3_SameTree (fu + 1) x0 x1 = ((step_G6_2_1 (sims_G6_2_1 fu)) x0 x1).1 := rfl
theorem spec_interchangeref3_SameTree (fu : Nat) (x0 : List Tapi_Branch) (x1 : List Tapi_Branch) : ∀ r, m_interchangeref3_SameTree fu x0 x1 = some r → PureSpec Tryz.prog 12 [.slice (List.map rTapi_Branch x0), .slice (List.map rTapi_Branch x1)] (.bool r) := ((sims_G6_2_1 fu) x0 x1).2

def sc_wire_elementFault_L1 : SC :=
  (.seq (.reg [.r 32 (.bin .lss (.t 31) (.t 30))])
  (.seq (.cond (.t 32)
    .skip
    (.exit 2))
  (.seq (.block 3 (.seq (.reg [.r 33 (.idx 1 (.t 29) (.t 31)),
       .o 34 (.ld1 (.t 33)),
       .r 6 (.mv (.t 34))])
    (.seq (.reg [.r 35 (.mv (.t 6)),
       .c 36 (.f 138) [.t 35],
       .r 7 (.mv (.t 36))])
    (.seq (.reg [.r 37 (.mv (.t 7)),
       .r 38 (.bin .neq (.t 37) (.c (.d (.int .i64 0))))])
    (.cond (.t 38)
      (.seq (.reg [.r 39 (.mv (.t 7)),
         .r 2 (.mv (.t 39))])
      .ret)
      .skip)))))
  (.reg [.r 40 (.bin .add (.t 31) (.c (.d (.int .i64 1)))),
     .r 31 (.mv (.t 40))]))))
def sc_wire_elementFault_B1 : SC := .block 2 (.loop sc_wire_elementFault_L1)
def sc_wire_elementFault_L2 : SC :=
  (.seq (.reg [.r 20 (.bin .lss (.t 19) (.t 18))])
  (.seq (.cond (.t 20)
    .skip
    (.exit 0))
  (.seq (.block 1 (.seq (.reg [.r 21 (.idx 1 (.t 17) (.t 19)),
       .o 22 (.ld1 (.t 21)),
       .r 4 (.mv (.t 22))])
    (.seq (.seq (.reg [.r 23 (.mv (.t 4)),
       .r 24 (.len (.t 23)),
       .r 25 (.bin .eql (.t 24) (.c (.d (.int .i64 0))))])
    (.cond (.t 25)
      (.seq (.reg [.r 2 (.mv (.c (.d (.int .i64 9))))])
      .ret)
      .skip))
    (.seq (.seq (.reg [.r 26 (.mv (.t 4)),
       .r 27 (.len (.t 26)),
       .r 28 (.bin .gtr (.t 27) (.c (.d (.int .i64 20))))])
    (.cond (.t 28)
      (.seq (.reg [.r 2 (.mv (.c (.d (.int .i64 2))))])
      .ret)
      .skip))
    (.seq (.reg [.r 29 (.mv (.t 4)),
       .r 30 (.len (.t 29)),
       .r 31 (.mv (.c (.d (.int .i64 0))))])
    sc_wire_elementFault_B1)))))
  (.reg [.r 41 (.bin .add (.t 19) (.c (.d (.int .i64 1)))),
     .r 19 (.mv (.t 41))]))))
def sc_wire_elementFault_B2 : SC := .block 0 (.loop sc_wire_elementFault_L2)
/-- interchange/wire.elementFault -/
def sc_wire_elementFault : SC :=
  (.seq (.reg [.r 1 (.boxI (.t 0)),
     .r 2 (.mv (.c (.d (.int .i64 0))))])
  (.seq (.seq (.reg [.r 8 (.fld 0 (.t 1)),
     .o 9 (.ld1 (.t 8)),
     .r 10 (.len (.t 9)),
     .r 11 (.bin .eql (.t 10) (.c (.d (.int .i64 0))))])
  (.cond (.t 11)
    (.seq (.reg [.r 2 (.mv (.c (.d (.int .i64 9))))])
    .ret)
    .skip))
  (.seq (.seq (.reg [.r 12 (.fld 0 (.t 1)),
     .o 13 (.ld1 (.t 12)),
     .r 14 (.len (.t 13)),
     .r 15 (.bin .gtr (.t 14) (.c (.d (.int .i64 20))))])
  (.cond (.t 15)
    (.seq (.reg [.r 2 (.mv (.c (.d (.int .i64 2))))])
    .ret)
    .skip))
  (.seq (.seq (.reg [.r 16 (.fld 0 (.t 1)),
     .o 17 (.ld1 (.t 16)),
     .r 18 (.len (.t 17)),
     .r 19 (.mv (.c (.d (.int .i64 0))))])
  sc_wire_elementFault_B2)
  (.seq (.reg [.r 2 (.mv (.c (.d (.int .i64 0))))])
  .ret)))))
theorem fit_wire_elementFault : fits Tryz.prog 111 Tryz.f111 sc_wire_elementFault [.t 2] 1 = true := by kernel_rfl

set_option maxRecDepth 100000 in
set_option maxHeartbeats 40000000 in
noncomputable def sims_G6_3_0 : (∀ (x0 : Tapi_Element), {m : Option (Int) // ∀ r, m = some r → PureSpec Tryz.prog 111 [.agg (rTapi_Element x0)] (.int .i64 r)}) := by
  (intro x0; apply Subtype.mk; intro r hm; apply pure_walk Tryz.func111 fit_wire_elementFault; unfold sc_wire_elementFault)
  repeat' (first | with_reducible refine W_seq ?_ | with_reducible refine W_reg ?_ | with_reducible refine W_block ?_ | with_reducible refine W_skip ?_ | with_reducible refine W_ret ?_ | with_reducible refine W_exit ?_ | with_reducible refine O_nil ?_ | with_reducible refine K_seq ?_ | with_reducible refine K_seqE ?_ | with_reducible refine K_seqR ?_ | with_reducible refine K_block ?_ | with_reducible refine K_blockR ?_ | with_reducible refine K_blockE ?_ | ((with_reducible apply K_blockN); decide) | with_reducible refine O_o2r ?_ | ((with_reducible apply O_idxr hm); (iterate 2 (simp only [push_cast, seval]; rfl)); (intro _; rfl); intro e hm) | ((with_reducible apply O_idxVr hm); (iterate 3 (simp only [push_cast, seval]; rfl)); intro e hm) | ((with_reducible apply O_r); (simp only [push_cast, seval]; rfl); (first | exact trivial | omega)) | ((with_reducible apply O_ldV1r hm); (iterate 2 (simp only [push_cast, seval]; rfl)); (intro _; rfl); intro e hm) | ((with_reducible apply O_strr hm); (iterate 2 (simp only [push_cast, seval]; rfl)); intro hm) | ((with_reducible apply W_condT); (focus (simp only [push_cast, seval]; done))) | ((with_reducible apply W_condF); (focus (simp only [push_cast, seval]; done))) | ((with_reducible apply O_cF hm); (simp only [push_cast, seval]; rfl); (first | apply spec_wire_textFault _); (any_goals ((repeat' (first | rfl | (with_reducible first | apply fT_Tapi_Element | apply f_optN | apply f_optS | apply f_some | apply f_tup | apply f_agg | apply f_ptr | apply f_fn | apply dv_slice | apply sv_d | apply f_cons | apply fold_nil | apply fold_cons | apply fold_app | apply f_rowI | apply f_rowY | apply f_rowS | apply f_rowB | apply f_rowL) | (with_reducible apply f_byte; decide))); done)); intro x hm) | ((with_reducible apply S_condB hm); (simp only [push_cast, seval]; rfl); intro hm; rotate_left; intro hm) | ((with_reducible apply K_endS hm); (focus (simp only [resOf, resL, RV.get, push_cast, seval]; rfl)); (focus ((repeat' (first | rfl | (with_reducible first | apply fT_Tapi_Element | apply f_optN | apply f_optS | apply f_some | apply f_tup | apply f_agg | apply f_ptr | apply f_fn | apply dv_slice | apply sv_d | apply f_cons | apply fold_nil | apply fold_cons | apply fold_app | apply f_rowI | apply f_rowY | apply f_rowS | apply f_rowB | apply f_rowL) | (with_reducible apply f_byte; decide))); done))) | ((with_reducible apply K_leave hm); intro r hm) | ((with_reducible apply K_leaveR hm); intro r hm) | ((apply S_loopY (b := 2) (X := sc_wire_elementFault_B1) (x := sc_wire_elementFault_L1) rfl (fun (c : SV × SV × SV × SV × SV) (s : Int) => st [(17, c.1), (18, c.2.1), (19, c.2.2.1), (29, c.2.2.2.1), (30, c.2.2.2.2), (31, .d (.int .i64 s))] []) (c := (_, _, _, _, _)) (s0 := _) hm); (focus (first | (dsimp only; done) | (dsimp only; rfl) | rfl)); (with_reducible refine Then.mk ?_ ?_)) | ((apply S_loopY (b := 0) (X := sc_wire_elementFault_B2) (x := sc_wire_elementFault_L2) rfl (fun (c : SV × SV) (s : Int) => st [(17, c.1), (18, c.2), (19, .d (.int .i64 s))] []) (c := (_, _)) (s0 := _) hm); (focus (first | (dsimp only; done) | (dsimp only; rfl) | rfl)); (with_reducible refine Then.mk ?_ ?_)) | ((apply K_next (s' := _) hm); (focus (first | (dsimp only; done) | (dsimp only; rfl) | rfl))) | ((apply K_brk (s' := _) hm); (focus (first | (dsimp only; done) | (dsimp only; rfl) | rfl))) | (((with_reducible apply K_brkN hm); (focus decide); intro r hm)) | (((with_reducible apply K_brkR hm); intro r hm)) | (((with_reducible apply LoopB.of); (focus (first | (dsimp only; done) | (dsimp only; rfl) | rfl)); (focus ((intro _; repeat' (first | with_reducible exact impC_end | with_reducible exact impC_endF | with_reducible refine impC_seq ?_ | with_reducible refine impC_block ?_ | ((with_reducible refine impC_rnd ?_); intro _) | ((with_reducible refine impC_brk ?_); intro _))))); (intro s o hm; first | unfold sc_wire_elementFault_L1 | unfold sc_wire_elementFault_L2); rotate_left; intro s hm)) | (((apply imp_stT; (repeat' (first | with_reducible exact keepT_nil | with_reducible exact keepC_nil | with_reducible apply keepT_cons | with_reducible apply keepC_cons | ((with_reducible apply svle_eq); (focus (first | (simp only [push_cast, seval]; rfl) | rfl)); (focus ((repeat' (first | rfl | (with_reducible first | apply fT_Tapi_Element | apply f_optN | apply f_optS | apply f_some | apply f_tup | apply f_agg | apply f_ptr | apply f_fn | apply dv_slice | apply sv_d | apply f_cons | apply fold_nil | apply fold_cons | apply fold_app | apply f_rowI | apply f_rowY | apply f_rowS | apply f_rowB | apply f_rowL) | (with_reducible apply f_byte; decide))); done))) | ((with_reducible apply svle_td); (focus (first | (simp only [push_cast, seval]; rfl) | rfl)); (focus (first | (simp only [push_cast, seval]; rfl) | rfl)); (focus ((repeat' (first | rfl | (with_reducible first | apply fT_Tapi_Element | apply f_optN | apply f_optS | apply f_some | apply f_tup | apply f_agg | apply f_ptr | apply f_fn | apply dv_slice | apply sv_d | apply f_cons | apply fold_nil | apply fold_cons | apply fold_app | apply f_rowI | apply f_rowY | apply f_rowS | apply f_rowB | apply f_rowL) | (with_reducible apply f_byte; decide))); done))) | ((with_reducible apply chle_eq); (focus (first | (simp only [push_cast, seval]; rfl) | rfl)); (first | with_reducible exact chle_rfl rfl | with_reducible exact chle_map0 | with_reducible apply chle_vec | with_reducible apply chle_box)) | (with_reducible first | apply cT_Tapi_Element | apply r_shS | apply r_shI | apply r_rflO | apply r_oneO | apply r_appO | apply r_nilO | apply c_ownN | apply c_ownL | apply vc_rfl | apply vc_nil | apply vc_cons | apply r_rfl | apply r_rows | apply r_nil | apply r_app | apply r_cons | apply c_rowI | apply c_rowY | apply c_rowS | apply c_rowB | apply c_rowL))); done))))
noncomputable def m_wire_elementFault (x0 : Tapi_Element) : Option (Int) := (sims_G6_3_0 x0).1
theorem spec_wire_elementFault (x0 : Tapi_Element) : ∀ r, m_wire_elementFault x0 = some r → PureSpec Tryz.prog 111 [.agg (rTapi_Element x0)] (.int .i64 r) := (sims_G6_3_0 x0).2

def sc_interchangeref3_checkTree_L1 : SC :=
  (.seq (.seq (.reg [.r 14 (.mv (.t 8)),
     .r 15 (.mv (.t 0)),
     .r 16 (.len (.t 15)),
     .r 17 (.bin .lss (.t 14) (.t 16))])
  (.cond (.t 17)
    .skip
    (.exit 0)))
  (.seq (.block 1 (.seq (.reg [.r 20 (.mv (.t 0)),
       .r 21 (.mv (.t 8)),
       .r 22 (.idx 4 (.t 20) (.t 21)),
       .o 23 (.ldA 4 (.t 22)),
       .w 9 (.boxM (.c (.agg [.d (.str []), .d (.str []), .nils, .nils]))),
       .w 0 (.st 4 (.t 9) (.t 23))])
    (.seq (.seq (.reg [.r 24 (.fld 0 (.t 9)),
       .o 25 (.ld1 (.t 24)),
       .r 26 (.bin .eql (.t 25) (.c (.d (.str []))))])
    (.cond (.t 26)
      (.reg [.r 27 (.mv (.t 2)),
         .r 28 (.bin .add (.t 27) (.c (.d (.int .i64 1)))),
         .r 2 (.mv (.t 28))])
      .skip))
    (.seq (.seq (.reg (.r 29 (.mv (.t 2)) :: .r 30 (.bin .gtr (.t 29) (.c (.d (.int .i64 2000)))) :: .r 31 (.mv (.t 30)) :: gapp [32, 33] 31 false (.r 32 (.mv (.t 1)) :: .r 33 (.bin .gtr (.t 32) (.c (.d (.int .i64 6)))) :: []) (.r 34 (.pick (.t 31) (.c (.d (.bool true))) (.t 33)) :: [])))
    (.cond (.t 34)
      (.seq (.reg [.r 35 (.mv (.t 2)),
         .r 6 (.mv (.t 35)),
         .r 7 (.mv (.c (.d (.int .i64 2))))])
      .ret)
      .skip))
    (.seq (.seq (.reg (.r 36 (.fld 0 (.t 9)) :: .o 37 (.ld1 (.t 36)) :: .r 38 (.bin .neq (.t 37) (.c (.d (.str [])))) :: .r 39 (.mv (.t 38)) :: gapp [40, 41, 42, 43] 39 true (.r 40 (.fld 0 (.t 9)) :: .r 41 (.ld1 (.t 40)) :: .c 42 (.f 48) [.t 41] :: .r 43 (.not (.t 42)) :: []) (.r 44 (.pick (.t 39) (.t 43) (.c (.d (.bool false)))) :: [])))
    (.cond (.t 44)
      (.seq (.reg [.r 45 (.mv (.t 2)),
         .r 6 (.mv (.t 45)),
         .r 7 (.mv (.c (.d (.int .i64 5))))])
      .ret)
      .skip))
    (.seq (.reg (.r 46 (.fld 1 (.t 9)) :: .r 47 (.fld 0 (.t 46)) :: .o 48 (.ld1 (.t 47)) :: .r 49 (.bin .eql (.t 48) (.c (.d (.str [])))) :: .r 50 (.mv (.t 49)) :: gapp [51, 52, 53, 54, 55] 50 true (.r 51 (.fld 1 (.t 9)) :: .r 52 (.fld 1 (.t 51)) :: .r 53 (.ld1 (.t 52)) :: .r 54 (.len (.t 53)) :: .r 55 (.bin .eql (.t 54) (.c (.d (.int .i64 0)))) :: []) (.r 56 (.pick (.t 50) (.t 55) (.c (.d (.bool false)))) :: .r 10 (.mv (.t 56)) :: [])))
    (.seq (.seq (.reg (.r 57 (.fld 0 (.t 9)) :: .o 58 (.ld1 (.t 57)) :: .r 59 (.bin .eql (.t 58) (.c (.d (.str [])))) :: .r 60 (.mv (.t 59)) :: gapp [61, 62, 63, 64] 60 true (.r 61 (.fld 3 (.t 9)) :: .r 62 (.ld1 (.t 61)) :: .r 63 (.len (.t 62)) :: .r 64 (.bin .gtr (.t 63) (.c (.d (.int .i64 0)))) :: []) (.r 65 (.pick (.t 60) (.t 64) (.c (.d (.bool false)))) :: .r 66 (.mv (.t 65)) :: gapp [67, 68, 69, 70, 71, 72, 73, 74, 75, 76, 77, 78, 79, 80, 81, 82, 83, 84, 85, 86, 87] 66 false (.r 67 (.fld 0 (.t 9)) :: .r 68 (.ld1 (.t 67)) :: .r 69 (.bin .neq (.t 68) (.c (.d (.str [])))) :: .r 70 (.mv (.t 69)) :: gapp [71, 72, 73, 74, 75, 76, 77, 78, 79, 80, 81, 82, 83, 84, 85, 86] 70 true (.r 71 (.mv (.t 10)) :: .r 72 (.not (.t 71)) :: .r 73 (.mv (.t 72)) :: gapp [74, 75, 76, 77] 73 false (.r 74 (.fld 3 (.t 9)) :: .r 75 (.ld1 (.t 74)) :: .r 76 (.len (.t 75)) :: .r 77 (.bin .eql (.t 76) (.c (.d (.int .i64 0)))) :: []) (.r 78 (.pick (.t 73) (.c (.d (.bool true))) (.t 77)) :: .r 79 (.mv (.t 78)) :: gapp [80, 81, 82, 83, 84, 85] 79 false (.r 80 (.fld 3 (.t 9)) :: .r 81 (.ld1 (.t 80)) :: .r 82 (.idx 4 (.t 81) (.c (.d (.int .i64 0)))) :: .r 83 (.fld 0 (.t 82)) :: .r 84 (.ld1 (.t 83)) :: .r 85 (.bin .neq (.t 84) (.c (.d (.str [])))) :: []) (.r 86 (.pick (.t 79) (.c (.d (.bool true))) (.t 85)) :: []))) (.r 87 (.pick (.t 70) (.t 86) (.c (.d (.bool false)))) :: [])) (.r 88 (.pick (.t 66) (.c (.d (.bool true))) (.t 87)) :: []))))
    (.cond (.t 88)
      (.seq (.reg [.r 89 (.mv (.t 2)),
         .r 6 (.mv (.t 89)),
         .r 7 (.mv (.c (.d (.int .i64 3))))])
      .ret)
      .skip))
    (.seq (.seq (.reg [.r 90 (.fld 0 (.t 9)),
       .o 91 (.ld1 (.t 90)),
       .r 92 (.bin .eql (.t 91) (.c (.d (.str []))))])
    (.cond (.t 92)
      (.seq (.reg [.r 93 (.fld 1 (.t 9)),
         .o 94 (.ldA 2 (.t 93)),
         .c 95 (.f 74) [.t 94],
         .r 11 (.mv (.t 95))])
      (.seq (.reg [.r 96 (.mv (.t 11)),
         .r 97 (.bin .neq (.t 96) (.c (.d (.int .i64 0))))])
      (.cond (.t 97)
        (.seq (.reg [.r 98 (.mv (.t 2)),
           .r 99 (.mv (.t 11)),
           .r 6 (.mv (.t 98)),
           .r 7 (.mv (.t 99))])
        .ret)
        .skip)))
      .skip))
    (.seq (.reg [.r 101 (.fld 3 (.t 9)),
       .o 102 (.ld1 (.t 101)),
       .r 103 (.mv (.t 1)),
       .r 104 (.bin .add (.t 103) (.c (.d (.int .i64 1)))),
       .r 105 (.mv (.t 2)),
       .c 106 (.f 47) [.t 102, .t 104, .t 105],
       .r 100 (.mv (.t 106)),
       .r 107 (.ext (.t 100) 0),
       .r 108 (.ext (.t 100) 1),
       .r 12 (.mv (.t 107)),
       .r 13 (.mv (.t 108))])
    (.seq (.seq (.reg [.r 109 (.mv (.t 13)),
       .r 110 (.bin .neq (.t 109) (.c (.d (.int .i64 0))))])
    (.cond (.t 110)
      (.seq (.reg [.r 111 (.mv (.t 12)),
         .r 112 (.mv (.t 13)),
         .r 6 (.mv (.t 111)),
         .r 7 (.mv (.t 112))])
      .ret)
      .skip))
    (.reg [.r 113 (.mv (.t 12)),
       .r 2 (.mv (.t 113))])))))))))))
  (.reg [.r 18 (.mv (.t 8)),
     .r 19 (.bin .add (.t 18) (.c (.d (.int .i64 1)))),
     .r 8 (.mv (.t 19))])))
def sc_interchangeref3_checkTree_B1 : SC := .block 0 (.loop sc_interchangeref3_checkTree_L1)
/-- interchange/interchangeref3.checkTree -/
def sc_interchangeref3_checkTree : SC :=
  (.seq (.reg [.r 6 (.mv (.c (.d (.int .i64 0)))),
     .r 7 (.mv (.c (.d (.int .i64 0))))])
  (.seq (.seq (.reg [.r 8 (.mv (.c (.d (.int .i64 0))))])
  sc_interchangeref3_checkTree_B1)
  (.seq (.reg [.r 114 (.mv (.t 2)),
     .r 6 (.mv (.t 114)),
     .r 7 (.mv (.c (.d (.int .i64 0))))])
  .ret)))
theorem fit_interchangeref3_checkTree : fits Tryz.prog 47 Tryz.f47 sc_interchangeref3_checkTree [.t 6, .t 7] 3 = true := by kernel_rfl

set_option maxRecDepth 100000 in
set_option maxHeartbeats 40000000 in
noncomputable def step_G6_3_1 : ((∀ (x0 : List Tapi_Branch) (x1 : Int) (x2 : Int), {m : Option (Int × Int) // ∀ r, m = some r → PureSpec Tryz.prog 47 [.slice (List.map rTapi_Branch x0), .int .i64 x1, .int .i64 x2] (.tup [.int .i64 r.1, .int .i64 r.2])})) → ((∀ (x0 : List Tapi_Branch) (x1 : Int) (x2 : Int), {m : Option (Int × Int) // ∀ r, m = some r → PureSpec Tryz.prog 47 [.slice (List.map rTapi_Branch x0), .int .i64 x1, .int .i64 x2] (.tup [.int .i64 r.1, .int .i64 r.2])})) := by
  intro ih
  have spec_interchangeref3_checkTree : ∀ (x0 : List Tapi_Branch) (x1 : Int) (x2 : Int), ∀ r, (ih x0 x1 x2).1 = some r → PureSpec Tryz.prog 47 [.slice (List.map rTapi_Branch x0), .int .i64 x1, .int .i64 x2] (.tup [.int .i64 r.1, .int .i64 r.2]) := fun x0 x1 x2 => (ih x0 x1 x2).2
  (intro x0 x1 x2; apply Subtype.mk; intro r hm; apply pure_walk Tryz.func47 fit_interchangeref3_checkTree; unfold sc_interchangeref3_checkTree)
  repeat' (first | with_reducible refine W_seq ?_ | with_reducible refine W_reg ?_ | with_reducible refine W_block ?_ | with_reducible refine W_skip ?_ | with_reducible refine W_ret ?_ | with_reducible refine W_exit ?_ | with_reducible refine O_nil ?_ | with_reducible refine K_seq ?_ | with_reducible refine K_seqE ?_ | with_reducible refine K_seqR ?_ | with_reducible refine K_block ?_ | with_reducible refine K_blockR ?_ | with_reducible refine K_blockE ?_ | ((with_reducible apply K_blockN); decide) | with_reducible refine O_o2r ?_ | ((with_reducible apply O_idxr hm); (iterate 2 (simp only [push_cast, seval]; rfl)); (intro _; rfl); intro e hm) | ((with_reducible apply O_idxVr hm); (iterate 3 (simp only [push_cast, seval]; rfl)); intro e hm) | ((with_reducible apply O_r); (simp only [push_cast, seval]; rfl); (first | exact trivial | omega)) | ((with_reducible apply O_ldV1r hm); (iterate 2 (simp only [push_cast, seval]; rfl)); (intro _; rfl); intro e hm) | ((with_reducible apply O_ldAVr hm); (iterate 2 (simp only [push_cast, seval]; rfl)); (intro _; rfl); intro e hm) | ((with_reducible apply O_strr hm); (iterate 2 (simp only [push_cast, seval]; rfl)); intro hm) | ((with_reducible apply O_and hm); (simp only [push_cast, seval]; rfl); rfl; intro v hm; rotate_left; intro v g hm) | ((with_reducible apply O_or hm); (simp only [push_cast, seval]; rfl); rfl; intro v hm; rotate_left; intro v g hm) | ((with_reducible apply W_condT); (focus (simp only [push_cast, seval]; done))) | ((with_reducible apply W_condF); (focus (simp only [push_cast, seval]; done))) | ((with_reducible apply O_cF hm); (simp only [push_cast, seval]; rfl); (first | apply spec_interchangeref2_IsName _ | apply spec_interchangeref2_CheckOne _ | apply spec_interchangeref3_checkTree _ _ _); (any_goals ((repeat' (first | rfl | (with_reducible first | apply fT_Tapi_Segment | apply fT_Tapi_Element | apply fT_Tapi_Branch | apply f_optN | apply f_optS | apply f_some | apply f_tup | apply f_agg | apply f_ptr | apply f_fn | apply dv_slice | apply sv_d | apply f_cons | apply fold_nil | apply fold_cons | apply fold_app | apply f_rowI | apply f_rowY | apply f_rowS | apply f_rowB | apply f_rowL) | (with_reducible apply f_byte; decide))); done)); intro x hm) | ((with_reducible apply O_w); (simp only [push_cast, seval]; rfl); (first | exact trivial | omega)) | ((with_reducible apply O_stVA hm); (iterate 4 (simp only [push_cast, seval]; rfl)); (focus ((repeat' (first | rfl | (with_reducible first | apply fT_Tapi_Segment | apply fT_Tapi_Element | apply fT_Tapi_Branch | apply f_optN | apply f_optS | apply f_some | apply f_tup | apply f_agg | apply f_ptr | apply f_fn | apply dv_slice | apply sv_d | apply f_cons | apply fold_nil | apply fold_cons | apply fold_app | apply f_rowI | apply f_rowY | apply f_rowS | apply f_rowB | apply f_rowL) | (with_reducible apply f_byte; decide))); done)); decide; (intro _; rfl); intro e hm) | ((with_reducible apply S_condB hm); (simp only [push_cast, seval]; rfl); intro hm; rotate_left; intro hm) | ((with_reducible apply K_end2 hm); (focus (simp only [resOf, resL, RV.get, push_cast, seval]; rfl)); (focus (first | (dsimp only; done) | (dsimp only; rfl) | rfl)); (focus ((repeat' (first | rfl | (with_reducible first | apply fT_Tapi_Segment | apply fT_Tapi_Element | apply fT_Tapi_Branch | apply f_optN | apply f_optS | apply f_some | apply f_tup | apply f_agg | apply f_ptr | apply f_fn | apply dv_slice | apply sv_d | apply f_cons | apply fold_nil | apply fold_cons | apply fold_app | apply f_rowI | apply f_rowY | apply f_rowS | apply f_rowB | apply f_rowL) | (with_reducible apply f_byte; decide))); done))) | ((with_reducible apply K_bool hm); (simp only [push_cast, seval]; rfl)) | ((with_reducible apply K_leave hm); intro r hm) | ((with_reducible apply K_leaveR hm); intro r hm) | ((apply S_loopY (b := 0) (X := sc_interchangeref3_checkTree_B1) (x := sc_interchangeref3_checkTree_L1) rfl (fun (c : SV × SV) (s : Int × Int) => st [(0, c.1), (1, c.2), (2, .d (.int .i64 s.1)), (8, .d (.int .i64 s.2))] []) (c := (_, _)) (s0 := (_, _)) hm); (focus (first | (dsimp only; done) | (dsimp only; rfl) | rfl)); (with_reducible refine Then.mk ?_ ?_)) | ((apply K_next (s' := (_, _)) hm); (focus (first | (dsimp only; done) | (dsimp only; rfl) | rfl))) | ((apply K_brk (s' := (_, _)) hm); (focus (first | (dsimp only; done) | (dsimp only; rfl) | rfl))) | (((with_reducible apply K_brkN hm); (focus decide); intro r hm)) | (((with_reducible apply K_brkR hm); intro r hm)) | (((with_reducible apply LoopB.of); (focus (first | (dsimp only; done) | (dsimp only; rfl) | rfl)); (focus ((intro _; repeat' (first | with_reducible exact impC_end | with_reducible exact impC_endF | with_reducible refine impC_seq ?_ | with_reducible refine impC_block ?_ | ((with_reducible refine impC_rnd ?_); intro _) | ((with_reducible refine impC_brk ?_); intro _))))); (intro s o hm; first | unfold sc_interchangeref3_checkTree_L1); rotate_left; intro s hm)) | (((apply imp_stT; (repeat' (first | with_reducible exact keepT_nil | with_reducible exact keepC_nil | with_reducible apply keepT_cons | with_reducible apply keepC_cons | ((with_reducible apply svle_eq); (focus (first | (simp only [push_cast, seval]; rfl) | rfl)); (focus ((repeat' (first | rfl | (with_reducible first | apply fT_Tapi_Segment | apply fT_Tapi_Element | apply fT_Tapi_Branch | apply f_optN | apply f_optS | apply f_some | apply f_tup | apply f_agg | apply f_ptr | apply f_fn | apply dv_slice | apply sv_d | apply f_cons | apply fold_nil | apply fold_cons | apply fold_app | apply f_rowI | apply f_rowY | apply f_rowS | apply f_rowB | apply f_rowL) | (with_reducible apply f_byte; decide))); done))) | ((with_reducible apply svle_td); (focus (first | (simp only [push_cast, seval]; rfl) | rfl)); (focus (first | (simp only [push_cast, seval]; rfl) | rfl)); (focus ((repeat' (first | rfl | (with_reducible first | apply fT_Tapi_Segment | apply fT_Tapi_Element | apply fT_Tapi_Branch | apply f_optN | apply f_optS | apply f_some | apply f_tup | apply f_agg | apply f_ptr | apply f_fn | apply dv_slice | apply sv_d | apply f_cons | apply fold_nil | apply fold_cons | apply fold_app | apply f_rowI | apply f_rowY | apply f_rowS | apply f_rowB | apply f_rowL) | (with_reducible apply f_byte; decide))); done))) | ((with_reducible apply chle_eq); (focus (first | (simp only [push_cast, seval]; rfl) | rfl)); (first | with_reducible exact chle_rfl rfl | with_reducible exact chle_map0 | with_reducible apply chle_vec | with_reducible apply chle_box)) | (with_reducible first | apply cT_Tapi_Segment | apply cT_Tapi_Element | apply cT_Tapi_Branch | apply r_shS | apply r_shI | apply r_rflO | apply r_oneO | apply r_appO | apply r_nilO | apply c_ownN | apply c_ownL | apply vc_rfl | apply vc_nil | apply vc_cons | apply r_rfl | apply r_rows | apply r_nil | apply r_app | apply r_cons | apply c_rowI | apply c_rowY | apply c_rowS | apply c_rowB | apply c_rowL))); done))))
noncomputable def sims_G6_3_1 (fu : Nat) : (∀ (x0 : List Tapi_Branch) (x1 : Int) (x2 : Int), {m : Option (Int × Int) // ∀ r, m = some r → PureSpec Tryz.prog 47 [.slice (List.map rTapi_Branch x0), .int .i64 x1, .int .i64 x2] (.tup [.int .i64 r.1, .int .i64 r.2])}) := Nat.rec (fun x0 x1 x2 => ⟨none, fun r h => by cases h⟩) (fun _ ih => step_G6_3_1 ih) fu
noncomputable def m_interchangeref3_checkTree (fu : Nat) (x0 : List Tapi_Branch) (x1 : Int) (x2 : Int) : Option (Int × Int) := ((sims_G6_3_1 fu) x0 x1 x2).1
theorem m_interchangeref3_checkTree_fold (fu : Nat) (x0 : List Tapi_Branch) (x1 : Int) (x2 : Int) : ((sims_G6_3_1 fu) x0 x1 x2).1 = m_interchangeref3_checkTree fu x0 x1 x2 := rfl
theorem m_interchangeref3_checkTree_succ (fu : Nat) (x0 : List Tapi_Branch) (x1 : Int) (x2 : Int) : m_interchangeref3_checkTree (fu + 1) x0 x1 x2 = ((step_G6_3_1 (sims_G6_3_1 fu)) x0 x1 x2).1 := rfl
theorem spec_interchangeref3_checkTree (fu : Nat) (x0 : List Tapi_Branch) (x1 : Int) (x2 : Int) : ∀ r, m_interchangeref3_checkTree fu x0 x1 x2 = some r → PureSpec Tryz.prog 47 [.slice (List.map rTapi_Branch x0), .int .i64 x1, .int .i64 x2] (.tup [.int .i64 r.1, .int .i64 r.2]) := ((sims_G6_3_1 fu) x0 x1 x2).2

def sc_wire_CheckSegments_L1 : SC :=
  (.seq (.reg [.r 29 (.bin .lss (.t 28) (.t 27))])
  (.seq (.cond (.t 29)
    .skip
    (.exit 2))
  (.seq (.block 3 (.seq (.reg [.r 30 (.idx 1 (.t 26) (.t 28)),
       .o 31 (.ldA 1 (.t 30)),
       .w 6 (.boxM (.c (.agg [.nils]))),
       .w 0 (.st 1 (.t 6) (.t 31))])
    (.seq (.reg [.o 32 (.ldA 1 (.t 6)),
       .c 33 (.f 111) [.t 32],
       .r 7 (.mv (.t 33))])
    (.seq (.reg [.r 34 (.mv (.t 7)),
       .r 35 (.bin .neq (.t 34) (.c (.d (.int .i64 0))))])
    (.cond (.t 35)
      (.seq (.reg [.r 36 (.mv (.t 7)),
         .r 2 (.mv (.t 36))])
      .ret)
      .skip)))))
  (.reg [.r 37 (.bin .add (.t 28) (.c (.d (.int .i64 1)))),
     .r 28 (.mv (.t 37))]))))
def sc_wire_CheckSegments_B1 : SC := .block 2 (.loop sc_wire_CheckSegments_L1)
def sc_wire_CheckSegments_L2 : SC :=
  (.seq (.reg [.r 14 (.bin .lss (.t 13) (.t 12))])
  (.seq (.cond (.t 14)
    .skip
    (.exit 0))
  (.seq (.block 1 (.seq (.reg [.r 15 (.idx 2 (.t 11) (.t 13)),
       .o 16 (.ldA 2 (.t 15)),
       .w 4 (.boxM (.c (.agg [.d (.str []), .nils]))),
       .w 0 (.st 2 (.t 4) (.t 16))])
    (.seq (.seq (.reg [.r 17 (.fld 0 (.t 4)),
       .o 18 (.ld1 (.t 17)),
       .c 19 (.f 42) [.t 18],
       .r 20 (.not (.t 19))])
    (.cond (.t 20)
      (.seq (.reg [.r 2 (.mv (.c (.d (.int .i64 5))))])
      .ret)
      .skip))
    (.seq (.seq (.reg [.r 21 (.fld 1 (.t 4)),
       .o 22 (.ld1 (.t 21)),
       .r 23 (.len (.t 22)),
       .r 24 (.bin .gtr (.t 23) (.c (.d (.int .i64 50))))])
    (.cond (.t 24)
      (.seq (.reg [.r 2 (.mv (.c (.d (.int .i64 2))))])
      .ret)
      .skip))
    (.seq (.reg [.r 25 (.fld 1 (.t 4)),
       .o 26 (.ld1 (.t 25)),
       .r 27 (.len (.t 26)),
       .r 28 (.mv (.c (.d (.int .i64 0))))])
    sc_wire_CheckSegments_B1)))))
  (.reg [.r 38 (.bin .add (.t 13) (.c (.d (.int .i64 1)))),
     .r 13 (.mv (.t 38))]))))
def sc_wire_CheckSegments_B2 : SC := .block 0 (.loop sc_wire_CheckSegments_L2)
/-- interchange/wire.CheckSegments -/
def sc_wire_CheckSegments : SC :=
  (.seq (.reg [.r 2 (.mv (.c (.d (.int .i64 0))))])
  (.seq (.seq (.reg [.r 8 (.mv (.t 0)),
     .r 9 (.len (.t 8)),
     .r 10 (.bin .gtr (.t 9) (.c (.d (.int .i64 2000))))])
  (.cond (.t 10)
    (.seq (.reg [.r 2 (.mv (.c (.d (.int .i64 2))))])
    .ret)
    .skip))
  (.seq (.seq (.reg [.r 11 (.mv (.t 0)),
     .r 12 (.len (.t 11)),
     .r 13 (.mv (.c (.d (.int .i64 0))))])
  sc_wire_CheckSegments_B2)
  (.seq (.reg [.r 2 (.mv (.c (.d (.int .i64 0))))])
  .ret))))
theorem fit_wire_CheckSegments : fits Tryz.prog 93 Tryz.f93 sc_wire_CheckSegments [.t 2] 1 = true := by kernel_rfl

/-- interchange/interchangeref3.CheckTree -/
def sc_interchangeref3_CheckTree : SC :=
  (.seq (.reg [.r 2 (.mv (.c (.d (.int .i64 0))))])
  (.seq (.reg [.r 6 (.mv (.t 0)),
     .c 7 (.f 47) [.t 6, .c (.d (.int .i64 0)), .c (.d (.int .i64 0))],
     .r 5 (.mv (.t 7)),
     .r 8 (.ext (.t 5) 0),
     .r 9 (.ext (.t 5) 1),
     .r 3 (.mv (.t 8)),
     .r 4 (.mv (.t 9))])
  (.seq (.reg [.r 10 (.mv (.t 4)),
     .r 2 (.mv (.t 10))])
  .ret)))
theorem fit_interchangeref3_CheckTree : fits Tryz.prog 21 Tryz.f21 sc_interchangeref3_CheckTree [.t 2] 1 = true := by kernel_rfl

set_option maxRecDepth 100000 in
set_option maxHeartbeats 40000000 in
noncomputable def sims_G6_4_0 : (∀ (x0 : List Tapi_Segment), {m : Option (Int) // ∀ r, m = some r → PureSpec Tryz.prog 93 [.slice (List.map rTapi_Segment x0)] (.int .i64 r)}) × (∀ (x0 : List Tapi_Branch), {m : Option (Int) // ∀ r, m = some r → PureSpec Tryz.prog 21 [.slice (List.map rTapi_Branch x0)] (.int .i64 r)}) := by
  refine ⟨?g0, ?g1⟩
  case' g0 => (intro x0; apply Subtype.mk; intro r hm; apply pure_walk Tryz.func93 fit_wire_CheckSegments; unfold sc_wire_CheckSegments)
  case' g1 => (intro x0; apply Subtype.mk; intro r hm; apply pure_walk Tryz.func21 fit_interchangeref3_CheckTree; unfold sc_interchangeref3_CheckTree)
  all_goals (repeat' (first | with_reducible refine W_seq ?_ | with_reducible refine W_reg ?_ | with_reducible refine W_block ?_ | with_reducible refine W_skip ?_ | with_reducible refine W_ret ?_ | with_reducible refine W_exit ?_ | with_reducible refine O_nil ?_ | with_reducible refine K_seq ?_ | with_reducible refine K_seqE ?_ | with_reducible refine K_seqR ?_ | with_reducible refine K_block ?_ | with_reducible refine K_blockR ?_ | with_reducible refine K_blockE ?_ | ((with_reducible apply K_blockN); decide) | with_reducible refine O_o2r ?_ | ((with_reducible apply O_idxr hm); (iterate 2 (simp only [push_cast, seval]; rfl)); (intro _; rfl); intro e hm) | ((with_reducible apply O_idxVr hm); (iterate 3 (simp only [push_cast, seval]; rfl)); intro e hm) | ((with_reducible apply O_r); (simp only [push_cast, seval]; rfl); (first | exact trivial | omega)) | ((with_reducible apply O_ldV1r hm); (iterate 2 (simp only [push_cast, seval]; rfl)); (intro _; rfl); intro e hm) | ((with_reducible apply O_ldAVr hm); (iterate 2 (simp only [push_cast, seval]; rfl)); (intro _; rfl); intro e hm) | ((with_reducible apply O_strr hm); (iterate 2 (simp only [push_cast, seval]; rfl)); intro hm) | ((with_reducible apply W_condT); (focus (simp only [push_cast, seval]; done))) | ((with_reducible apply W_condF); (focus (simp only [push_cast, seval]; done))) | ((with_reducible apply O_cF hm); (simp only [push_cast, seval]; rfl); (first | apply spec_kit_IsTag _ | apply spec_wire_elementFault _ | apply spec_interchangeref3_checkTree FU _ _ _); (any_goals ((repeat' (first | rfl | (with_reducible first | apply fT_Tapi_Segment | apply fT_Tapi_Element | apply fT_Tapi_Branch | apply f_optN | apply f_optS | apply f_some | apply f_tup | apply f_agg | apply f_ptr | apply f_fn | apply dv_slice | apply sv_d | apply f_cons | apply fold_nil | apply fold_cons | apply fold_app | apply f_rowI | apply f_rowY | apply f_rowS | apply f_rowB | apply f_rowL) | (with_reducible apply f_byte; decide))); done)); intro x hm) | ((with_reducible apply O_w); (simp only [push_cast, seval]; rfl); (first | exact trivial | omega)) | ((with_reducible apply O_stVA hm); (iterate 4 (simp only [push_cast, seval]; rfl)); (focus ((repeat' (first | rfl | (with_reducible first | apply fT_Tapi_Segment | apply fT_Tapi_Element | apply fT_Tapi_Branch | apply f_optN | apply f_optS | apply f_some | apply f_tup | apply f_agg | apply f_ptr | apply f_fn | apply dv_slice | apply sv_d | apply f_cons | apply fold_nil | apply fold_cons | apply fold_app | apply f_rowI | apply f_rowY | apply f_rowS | apply f_rowB | apply f_rowL) | (with_reducible apply f_byte; decide))); done)); decide; (intro _; rfl); intro e hm) | ((with_reducible apply S_condB hm); (simp only [push_cast, seval]; rfl); intro hm; rotate_left; intro hm) | ((with_reducible apply K_endS hm); (focus (simp only [resOf, resL, RV.get, push_cast, seval]; rfl)); (focus ((repeat' (first | rfl | (with_reducible first | apply fT_Tapi_Segment | apply fT_Tapi_Element | apply fT_Tapi_Branch | apply f_optN | apply f_optS | apply f_some | apply f_tup | apply f_agg | apply f_ptr | apply f_fn | apply dv_slice | apply sv_d | apply f_cons | apply fold_nil | apply fold_cons | apply fold_app | apply f_rowI | apply f_rowY | apply f_rowS | apply f_rowB | apply f_rowL) | (with_reducible apply f_byte; decide))); done))) | ((with_reducible apply K_leave hm); intro r hm) | ((with_reducible apply K_leaveR hm); intro r hm) | ((apply S_loopY (b := 2) (X := sc_wire_CheckSegments_B1) (x := sc_wire_CheckSegments_L1) rfl (fun (c : SV × SV × SV × SV × SV) (s : Int) => st [(11, c.1), (12, c.2.1), (13, c.2.2.1), (26, c.2.2.2.1), (27, c.2.2.2.2), (28, .d (.int .i64 s))] []) (c := (_, _, _, _, _)) (s0 := _) hm); (focus (first | (dsimp only; done) | (dsimp only; rfl) | rfl)); (with_reducible refine Then.mk ?_ ?_)) | ((apply S_loopY (b := 0) (X := sc_wire_CheckSegments_B2) (x := sc_wire_CheckSegments_L2) rfl (fun (c : SV × SV) (s : Int) => st [(11, c.1), (12, c.2), (13, .d (.int .i64 s))] []) (c := (_, _)) (s0 := _) hm); (focus (first | (dsimp only; done) | (dsimp only; rfl) | rfl)); (with_reducible refine Then.mk ?_ ?_)) | ((apply K_next (s' := _) hm); (focus (first | (dsimp only; done) | (dsimp only; rfl) | rfl))) | ((apply K_brk (s' := _) hm); (focus (first | (dsimp only; done) | (dsimp only; rfl) | rfl))) | (((with_reducible apply K_brkN hm); (focus decide); intro r hm)) | (((with_reducible apply K_brkR hm); intro r hm)) | (((with_reducible apply LoopB.of); (focus (first | (dsimp only; done) | (dsimp only; rfl) | rfl)); (focus ((intro _; repeat' (first | with_reducible exact impC_end | with_reducible exact impC_endF | with_reducible refine impC_seq ?_ | with_reducible refine impC_block ?_ | ((with_reducible refine impC_rnd ?_); intro _) | ((with_reducible refine impC_brk ?_); intro _))))); (intro s o hm; first | unfold sc_wire_CheckSegments_L1 | unfold sc_wire_CheckSegments_L2); rotate_left; intro s hm)) | (((apply imp_stT; (repeat' (first | with_reducible exact keepT_nil | with_reducible exact keepC_nil | with_reducible apply keepT_cons | with_reducible apply keepC_cons | ((with_reducible apply svle_eq); (focus (first | (simp only [push_cast, seval]; rfl) | rfl)); (focus ((repeat' (first | rfl | (with_reducible first | apply fT_Tapi_Segment | apply fT_Tapi_Element | apply fT_Tapi_Branch | apply f_optN | apply f_optS | apply f_some | apply f_tup | apply f_agg | apply f_ptr | apply f_fn | apply dv_slice | apply sv_d | apply f_cons | apply fold_nil | apply fold_cons | apply fold_app | apply f_rowI | apply f_rowY | apply f_rowS | apply f_rowB | apply f_rowL) | (with_reducible apply f_byte; decide))); done))) | ((with_reducible apply svle_td); (focus (first | (simp only [push_cast, seval]; rfl) | rfl)); (focus (first | (simp only [push_cast, seval]; rfl) | rfl)); (focus ((repeat' (first | rfl | (with_reducible first | apply fT_Tapi_Segment | apply fT_Tapi_Element | apply fT_Tapi_Branch | apply f_optN | apply f_optS | apply f_some | apply f_tup | apply f_agg | apply f_ptr | apply f_fn | apply dv_slice | apply sv_d | apply f_cons | apply fold_nil | apply fold_cons | apply fold_app | apply f_rowI | apply f_rowY | apply f_rowS | apply f_rowB | apply f_rowL) | (with_reducible apply f_byte; decide))); done))) | ((with_reducible apply chle_eq); (focus (first | (simp only [push_cast, seval]; rfl) | rfl)); (first | with_reducible exact chle_rfl rfl | with_reducible exact chle_map0 | with_reducible apply chle_vec | with_reducible apply chle_box)) | (with_reducible first | apply cT_Tapi_Segment | apply cT_Tapi_Element | apply cT_Tapi_Branch | apply r_shS | apply r_shI | apply r_rflO | apply r_oneO | apply r_appO | apply r_nilO | apply c_ownN | apply c_ownL | apply vc_rfl | apply vc_nil | apply vc_cons | apply r_rfl | apply r_rows | apply r_nil | apply r_app | apply r_cons | apply c_rowI | apply c_rowY | apply c_rowS | apply c_rowB | apply c_rowL))); done)))))
noncomputable def m_wire_CheckSegments (x0 : List Tapi_Segment) : Option (Int) := (sims_G6_4_0.1 x0).1
theorem spec_wire_CheckSegments (x0 : List Tapi_Segment) : ∀ r, m_wire_CheckSegments x0 = some r → PureSpec Tryz.prog 93 [.slice (List.map rTapi_Segment x0)] (.int .i64 r) := (sims_G6_4_0.1 x0).2
noncomputable def m_interchangeref3_CheckTree (x0 : List Tapi_Branch) : Option (Int) := (sims_G6_4_0.2 x0).1
theorem spec_interchangeref3_CheckTree (x0 : List Tapi_Branch) : ∀ r, m_interchangeref3_CheckTree x0 = some r → PureSpec Tryz.prog 21 [.slice (List.map rTapi_Branch x0)] (.int .i64 r) := (sims_G6_4_0.2 x0).2

def sc_interchange_scheme_pathed_list_L1 : SC :=
  (.seq (.reg [.r 13 (.bin .lss (.t 12) (.t 11))])
  (.seq (.cond (.t 13)
    .skip
    (.exit 0))
  (.seq (.block 1 (.seq (.reg [.r 14 (.idx 4 (.t 10) (.t 12)),
       .o 15 (.ldA 4 (.t 14)),
       .w 8 (.boxM (.c (.agg [.d (.str []), .d (.str []), .nils, .nils]))),
       .w 0 (.st 4 (.t 8) (.t 15))])
    (.seq (.reg [.r 16 (.mv (.t 0)),
       .o 17 (.ldA 4 (.t 8)),
       .r 18 (.mv (.t 2)),
       .p (some 19) (.f 65) [.t 16, .t 17, .t 18],
       .r 9 (.mv (.t 19))])
    (.seq (.reg [.r 20 (.mv (.t 9)),
       .r 21 (.bin .neq (.t 20) (.c (.d (.int .i64 0))))])
    (.cond (.t 21)
      (.seq (.reg [.r 22 (.mv (.t 9)),
         .r 6 (.mv (.t 22))])
      .ret)
      .skip)))))
  (.reg [.r 23 (.bin .add (.t 12) (.c (.d (.int .i64 1)))),
     .r 12 (.mv (.t 23))]))))
def sc_interchange_scheme_pathed_list_B1 : SC := .block 0 (.loop sc_interchange_scheme_pathed_list_L1)
/-- (*interchange/scheme.pathed).list -/
def sc_interchange_scheme_pathed_list : SC :=
  (.seq (.reg [.r 6 (.mv (.c (.d (.int .i64 0))))])
  (.seq (.seq (.reg [.r 10 (.mv (.t 1)),
     .r 11 (.len (.t 10)),
     .r 12 (.mv (.c (.d (.int .i64 0))))])
  sc_interchange_scheme_pathed_list_B1)
  (.seq (.reg [.r 6 (.mv (.c (.d (.int .i64 0))))])
  .ret)))
theorem fit_interchange_scheme_pathed_list : fits Tryz.prog 38 Tryz.f38 sc_interchange_scheme_pathed_list [.t 6] 3 = true := by kernel_rfl

/-- (*interchange/scheme.pathed).branch -/
def sc_interchange_scheme_pathed_branch : SC :=
  (.seq (.reg [.r 4 (.boxI (.t 1)),
     .r 6 (.mv (.c (.d (.int .i64 0))))])
  (.seq (.seq (.reg [.r 7 (.fld 0 (.t 4)),
     .o 8 (.ld1 (.t 7)),
     .r 9 (.bin .eql (.t 8) (.c (.d (.str []))))])
  (.cond (.t 9)
    (.reg [.r 10 (.mv (.t 0)),
       .r 11 (.nilc (.t 10)),
       .r 12 (.fld 0 (.t 11)),
       .o 13 (.ld1 (.t 12)),
       .r 14 (.bin .add (.t 13) (.c (.d (.int .i64 1)))),
       .r 15 (.nilc (.t 10)),
       .r 16 (.fld 0 (.t 15)),
       .w 0 (.st 1 (.t 16) (.t 14))])
    .skip))
  (.seq (.block 0 (.seq (.reg (.r 18 (.mv (.t 0)) :: .r 19 (.nilc (.t 18)) :: .r 20 (.fld 0 (.t 19)) :: .o 21 (.ld1 (.t 20)) :: .r 22 (.bin .gtr (.t 21) (.c (.d (.int .i64 2000)))) :: .r 23 (.mv (.t 22)) :: gapp [24, 25] 23 false (.r 24 (.mv (.t 2)) :: .r 25 (.bin .gtr (.t 24) (.c (.d (.int .i64 6)))) :: []) (.r 26 (.pick (.t 23) (.c (.d (.bool true))) (.t 25)) :: .r 17 (.mv (.t 26)) :: [])))
    (.cond (.t 17)
      (.seq (.reg [.r 6 (.mv (.c (.d (.int .i64 2))))])
      .ret)
      (.seq (.reg (.r 28 (.fld 0 (.t 4)) :: .o 29 (.ld1 (.t 28)) :: .r 30 (.bin .neq (.t 29) (.c (.d (.str [])))) :: .r 31 (.mv (.t 30)) :: gapp [32, 33, 34, 35] 31 true (.r 32 (.fld 0 (.t 4)) :: .r 33 (.ld1 (.t 32)) :: .c 34 (.f 68) [.t 33] :: .r 35 (.not (.t 34)) :: []) (.r 36 (.pick (.t 31) (.t 35) (.c (.d (.bool false)))) :: .r 27 (.mv (.t 36)) :: [])))
      (.cond (.t 27)
        (.seq (.reg [.r 6 (.mv (.c (.d (.int .i64 5))))])
        .ret)
        (.seq (.reg (.r 38 (.fld 0 (.t 4)) :: .o 39 (.ld1 (.t 38)) :: .r 40 (.bin .eql (.t 39) (.c (.d (.str [])))) :: .r 41 (.mv (.t 40)) :: gapp [42, 43, 44, 45] 41 true (.r 42 (.fld 3 (.t 4)) :: .r 43 (.ld1 (.t 42)) :: .r 44 (.len (.t 43)) :: .r 45 (.bin .gtr (.t 44) (.c (.d (.int .i64 0)))) :: []) (.r 46 (.pick (.t 41) (.t 45) (.c (.d (.bool false)))) :: .r 37 (.mv (.t 46)) :: [])))
        (.cond (.t 37)
          (.seq (.reg [.r 6 (.mv (.c (.d (.int .i64 3))))])
          .ret)
          (.seq (.reg (.r 48 (.fld 0 (.t 4)) :: .o 49 (.ld1 (.t 48)) :: .r 50 (.bin .neq (.t 49) (.c (.d (.str [])))) :: .r 51 (.mv (.t 50)) :: gapp [52, 53, 54, 55, 56, 57, 58, 59, 60, 61, 62, 63, 64, 65, 66, 67, 68, 69] 51 true (.r 52 (.fld 1 (.t 4)) :: .r 53 (.ldA 2 (.t 52)) :: .c 54 (.f 92) [.t 53] :: .r 55 (.not (.t 54)) :: .r 56 (.mv (.t 55)) :: gapp [57, 58, 59, 60] 56 false (.r 57 (.fld 3 (.t 4)) :: .r 58 (.ld1 (.t 57)) :: .r 59 (.len (.t 58)) :: .r 60 (.bin .eql (.t 59) (.c (.d (.int .i64 0)))) :: []) (.r 61 (.pick (.t 56) (.c (.d (.bool true))) (.t 60)) :: .r 62 (.mv (.t 61)) :: gapp [63, 64, 65, 66, 67, 68] 62 false (.r 63 (.fld 3 (.t 4)) :: .r 64 (.ld1 (.t 63)) :: .r 65 (.idx 4 (.t 64) (.c (.d (.int .i64 0)))) :: .r 66 (.fld 0 (.t 65)) :: .r 67 (.ld1 (.t 66)) :: .r 68 (.bin .neq (.t 67) (.c (.d (.str [])))) :: []) (.r 69 (.pick (.t 62) (.c (.d (.bool true))) (.t 68)) :: []))) (.r 70 (.pick (.t 51) (.t 69) (.c (.d (.bool false)))) :: .r 47 (.mv (.t 70)) :: [])))
          (.cond (.t 47)
            (.seq (.reg [.r 6 (.mv (.c (.d (.int .i64 3))))])
            .ret)
            (.seq (.reg [.r 72 (.fld 0 (.t 4)),
               .o 73 (.ld1 (.t 72)),
               .r 74 (.bin .eql (.t 73) (.c (.d (.str [])))),
               .r 71 (.mv (.t 74))])
            (.cond (.t 71)
              (.seq (.reg [.r 75 (.fld 1 (.t 4)),
                 .o 76 (.ldA 2 (.t 75)),
                 .r 77 (.bslice 2 [.t 76]),
                 .c 78 (.f 93) [.t 77],
                 .r 6 (.mv (.t 78))])
              .ret)
              .skip)))))))))))
  (.seq (.reg [.r 79 (.mv (.t 0)),
     .r 80 (.fld 3 (.t 4)),
     .o 81 (.ld1 (.t 80)),
     .r 82 (.mv (.t 2)),
     .r 83 (.bin .add (.t 82) (.c (.d (.int .i64 1)))),
     .p (some 84) (.f 38) [.t 79, .t 81, .t 83],
     .r 6 (.mv (.t 84))])
  .ret))))
theorem fit_interchange_scheme_pathed_branch : fits Tryz.prog 65 Tryz.f65 sc_interchange_scheme_pathed_branch [.t 6] 3 = true := by kernel_rfl

set_option maxRecDepth 100000 in
set_option maxHeartbeats 40000000 in
noncomputable def step_G6_5_0 : ((∀ (x0 : Tscheme_pathed) (x1 : List Tapi_Branch) (x2 : Int), {m : Option ((Int) × Tscheme_pathed) // ∀ r, m = some r → FSpec Tryz.prog 38 (.own (.pt [.sh]) (.ptr (rTscheme_pathed x0)) :: List.map SV.d ([.slice (List.map rTapi_Branch x1), .int .i64 x2] : List DV)) (.d (.int .i64 r.1)) (.own (.pt [.sh]) (.ptr (rTscheme_pathed r.2)) :: List.map SV.d ([.slice (List.map rTapi_Branch x1), .int .i64 x2] : List DV))}) × (∀ (x0 : Tscheme_pathed) (x1 : Tapi_Branch) (x2 : Int), {m : Option ((Int) × Tscheme_pathed) // ∀ r, m = some r → FSpec Tryz.prog 65 (.own (.pt [.sh]) (.ptr (rTscheme_pathed x0)) :: List.map SV.d ([.agg (rTapi_Branch x1), .int .i64 x2] : List DV)) (.d (.int .i64 r.1)) (.own (.pt [.sh]) (.ptr (rTscheme_pathed r.2)) :: List.map SV.d ([.agg (rTapi_Branch x1), .int .i64 x2] : List DV))})) → ((∀ (x0 : Tscheme_pathed) (x1 : List Tapi_Branch) (x2 : Int), {m : Option ((Int) × Tscheme_pathed) // ∀ r, m = some r → FSpec Tryz.prog 38 (.own (.pt [.sh]) (.ptr (rTscheme_pathed x0)) :: List.map SV.d ([.slice (List.map rTapi_Branch x1), .int .i64 x2] : List DV)) (.d (.int .i64 r.1)) (.own (.pt [.sh]) (.ptr (rTscheme_pathed r.2)) :: List.map SV.d ([.slice (List.map rTapi_Branch x1), .int .i64 x2] : List DV))}) × (∀ (x0 : Tscheme_pathed) (x1 : Tapi_Branch) (x2 : Int), {m : Option ((Int) × Tscheme_pathed) // ∀ r, m = some r → FSpec Tryz.prog 65 (.own (.pt [.sh]) (.ptr (rTscheme_pathed x0)) :: List.map SV.d ([.agg (rTapi_Branch x1), .int .i64 x2] : List DV)) (.d (.int .i64 r.1)) (.own (.pt [.sh]) (.ptr (rTscheme_pathed r.2)) :: List.map SV.d ([.agg (rTapi_Branch x1), .int .i64 x2] : List DV))})) := by
  intro ih
  have spec_interchange_scheme_pathed_list : ∀ (x0 : Tscheme_pathed) (x1 : List Tapi_Branch) (x2 : Int), ∀ r, (ih.1 x0 x1 x2).1 = some r → FSpec Tryz.prog 38 (.own (.pt [.sh]) (.ptr (rTscheme_pathed x0)) :: List.map SV.d ([.slice (List.map rTapi_Branch x1), .int .i64 x2] : List DV)) (.d (.int .i64 r.1)) (.own (.pt [.sh]) (.ptr (rTscheme_pathed r.2)) :: List.map SV.d ([.slice (List.map rTapi_Branch x1), .int .i64 x2] : List DV)) := fun x0 x1 x2 => (ih.1 x0 x1 x2).2
  have spec_interchange_scheme_pathed_branch : ∀ (x0 : Tscheme_pathed) (x1 : Tapi_Branch) (x2 : Int), ∀ r, (ih.2 x0 x1 x2).1 = some r → FSpec Tryz.prog 65 (.own (.pt [.sh]) (.ptr (rTscheme_pathed x0)) :: List.map SV.d ([.agg (rTapi_Branch x1), .int .i64 x2] : List DV)) (.d (.int .i64 r.1)) (.own (.pt [.sh]) (.ptr (rTscheme_pathed r.2)) :: List.map SV.d ([.agg (rTapi_Branch x1), .int .i64 x2] : List DV)) := fun x0 x1 x2 => (ih.2 x0 x1 x2).2
  refine ⟨?g0, ?g1⟩
  case' g0 => (intro x0 x1 x2; apply Subtype.mk; intro r hm; apply fspec_walk1 (N := 24) (k := 3) Tryz.func38 fit_interchange_scheme_pathed_list (by kernel_rfl) rfl rfl (by decide); unfold sc_interchange_scheme_pathed_list)
  case' g1 => (intro x0 x1 x2; apply Subtype.mk; intro r hm; apply fspec_walk1 (N := 85) (k := 3) Tryz.func65 fit_interchange_scheme_pathed_branch (by kernel_rfl) rfl rfl (by decide); unfold sc_interchange_scheme_pathed_branch)
  all_goals (repeat' (first | with_reducible refine W_seq ?_ | with_reducible refine W_reg ?_ | with_reducible refine W_block ?_ | with_reducible refine W_skip ?_ | with_reducible refine W_ret ?_ | with_reducible refine W_exit ?_ | with_reducible refine O_nil ?_ | with_reducible refine K_seq ?_ | with_reducible refine K_seqE ?_ | with_reducible refine K_seqR ?_ | with_reducible refine K_block ?_ | with_reducible refine K_blockR ?_ | with_reducible refine K_blockE ?_ | ((with_reducible apply K_blockN); decide) | with_reducible refine O_o2r ?_ | ((with_reducible apply O_idxr hm); (iterate 2 (simp only [push_cast, seval]; rfl)); (intro _; rfl); intro e hm) | ((with_reducible apply O_idxVr hm); (iterate 3 (simp only [push_cast, seval]; rfl)); intro e hm) | ((with_reducible apply O_nilcO hm); (simp only [push_cast, seval]; rfl); intro a hm) | ((with_reducible apply O_idxLr hm (row := rTapi_Segment)); (iterate 2 (simp only [push_cast, seval]; rfl)); (focus ((repeat' (first | rfl | (with_reducible first | apply fT_Tapi_Segment | apply fT_Tapi_Element | apply fT_Tscheme_pathed | apply fT_Tapi_Branch | apply f_optN | apply f_optS | apply f_some | apply f_tup | apply f_agg | apply f_ptr | apply f_fn | apply dv_slice | apply sv_d | apply f_cons | apply fold_nil | apply fold_cons | apply fold_app | apply f_rowI | apply f_rowY | apply f_rowS | apply f_rowB | apply f_rowL) | (with_reducible apply f_byte; decide))); done)); (simp only [push_cast, seval]; rfl); (intro _; rfl); intro e hm) | ((with_reducible apply O_r); (simp only [push_cast, seval]; rfl); (first | exact trivial | omega)) | ((with_reducible apply O_ldV1r hm); (iterate 2 (simp only [push_cast, seval]; rfl)); (intro _; rfl); intro e hm) | ((with_reducible apply O_ldAVr hm); (iterate 2 (simp only [push_cast, seval]; rfl)); (intro _; rfl); intro e hm) | ((with_reducible apply O_strr hm); (iterate 2 (simp only [push_cast, seval]; rfl)); intro hm) | ((with_reducible apply O_and hm); (simp only [push_cast, seval]; rfl); rfl; intro v hm; rotate_left; intro v g hm) | ((with_reducible apply O_or hm); (simp only [push_cast, seval]; rfl); rfl; intro v hm; rotate_left; intro v g hm) | ((with_reducible apply W_condT); (focus (simp only [push_cast, seval]; done))) | ((with_reducible apply W_condF); (focus (simp only [push_cast, seval]; done))) | ((with_reducible apply O_cF hm); (simp only [push_cast, seval]; rfl); (first | apply spec_interchange_scheme_pathed_branch _ _ _ | apply spec_kit_IsName _ | apply spec_scheme_isZero _ | apply spec_wire_CheckSegments _ | apply spec_interchange_scheme_pathed_list _ _ _); (any_goals ((repeat' (first | rfl | (with_reducible first | apply fT_Tapi_Segment | apply fT_Tapi_Element | apply fT_Tscheme_pathed | apply fT_Tapi_Branch | apply f_optN | apply f_optS | apply f_some | apply f_tup | apply f_agg | apply f_ptr | apply f_fn | apply dv_slice | apply sv_d | apply f_cons | apply fold_nil | apply fold_cons | apply fold_app | apply f_rowI | apply f_rowY | apply f_rowS | apply f_rowB | apply f_rowL) | (with_reducible apply f_byte; decide))); done)); intro x hm) | ((with_reducible apply O_w); (simp only [push_cast, seval]; rfl); (first | exact trivial | omega)) | ((with_reducible apply O_stVA hm); (iterate 4 (simp only [push_cast, seval]; rfl)); (focus ((repeat' (first | rfl | (with_reducible first | apply fT_Tapi_Segment | apply fT_Tapi_Element | apply fT_Tscheme_pathed | apply fT_Tapi_Branch | apply f_optN | apply f_optS | apply f_some | apply f_tup | apply f_agg | apply f_ptr | apply f_fn | apply dv_slice | apply sv_d | apply f_cons | apply fold_nil | apply fold_cons | apply fold_app | apply f_rowI | apply f_rowY | apply f_rowS | apply f_rowB | apply f_rowL) | (with_reducible apply f_byte; decide))); done)); decide; (intro _; rfl); intro e hm) | ((with_reducible apply O_stV hm); (iterate 3 (simp only [push_cast, seval]; rfl)); rfl; (intro _; rfl); rfl; (focus (intro a; simp only [push_cast, seval]; rfl)); (focus (intro a; (repeat' (first | rfl | with_reducible apply eT_Tapi_Segment | with_reducible apply eT_Tapi_Element | with_reducible apply eT_Tscheme_pathed | with_reducible apply eT_Tapi_Branch)); done)); intro e hm) | ((with_reducible apply S_condB hm); (simp only [push_cast, seval]; rfl); intro hm; rotate_left; intro hm) | ((with_reducible apply K_endS hm); (focus (simp only [resOf, resL, RV.get, push_cast, seval]; rfl)); (focus ((repeat' (first | rfl | (with_reducible first | apply fT_Tapi_Segment | apply fT_Tapi_Element | apply fT_Tscheme_pathed | apply fT_Tapi_Branch | apply f_optN | apply f_optS | apply f_some | apply f_tup | apply f_agg | apply f_ptr | apply f_fn | apply dv_slice | apply sv_d | apply f_cons | apply fold_nil | apply fold_cons | apply fold_app | apply f_rowI | apply f_rowY | apply f_rowS | apply f_rowB | apply f_rowL) | (with_reducible apply f_byte; decide))); done))) | ((with_reducible apply K_bool hm); (simp only [push_cast, seval]; rfl)) | ((with_reducible apply K_leave hm); intro r hm) | ((with_reducible apply K_leaveR hm); intro r hm) | ((apply S_loopY (b := 0) (X := sc_interchange_scheme_pathed_list_B1) (x := sc_interchange_scheme_pathed_list_L1) rfl (fun (c : SV × SV × SV × SV × SV) (s : Int × Int) => st [(0, .ref 0 0), (2, c.1), (10, c.2.1), (11, c.2.2.1), (12, .d (.int .i64 s.2)), (24, .ref 0 0), (25, c.2.2.2.1), (26, c.2.2.2.2)] [(0, .box (bT_Tscheme_pathed s.1))]) (c := (_, _, _, _, _)) (s0 := (_, _)) hm); (focus (first | (dsimp only; done) | (dsimp only; rfl) | rfl)); (with_reducible refine Then.mk ?_ ?_)) | ((apply K_next (s' := (_, _)) hm); (focus (first | (dsimp only; done) | (dsimp only; rfl) | rfl))) | ((apply K_brk (s' := (_, _)) hm); (focus (first | (dsimp only; done) | (dsimp only; rfl) | rfl))) | (((with_reducible apply K_brkN hm); (focus decide); intro r hm)) | (((with_reducible apply K_brkR hm); intro r hm)) | (((with_reducible apply O_pM hm (id := 0) (ms := [.sh])); (focus (exact Imp.refl _)); (focus (simp only [push_cast, seval]; (try rfl); done)); (focus (simp only [push_cast, seval]; (try rfl); done)); (focus (simp only [push_cast, seval]; (try rfl); done)); (focus ((repeat' (first | (with_reducible first | apply oT_Tscheme_pathed | apply cT_Tapi_Segment | apply cT_Tapi_Element | apply cT_Tscheme_pathed | apply cT_Tapi_Branch | apply r_shS | apply r_shI | apply r_rflO | apply r_oneO | apply r_appO | apply r_nilO | apply c_ownN | apply c_ownL | apply vc_rfl | apply vc_nil | apply vc_cons | apply r_rfl | apply r_rows | apply r_nil | apply r_app | apply r_cons | apply c_rowI | apply c_rowY | apply c_rowS | apply c_rowB | apply c_rowL) | ((with_reducible apply svle_eq); (focus (first | (simp only [push_cast, seval]; rfl) | rfl)); (focus ((repeat' (first | rfl | (with_reducible first | apply fT_Tapi_Segment | apply fT_Tapi_Element | apply fT_Tscheme_pathed | apply fT_Tapi_Branch | apply f_optN | apply f_optS | apply f_some | apply f_tup | apply f_agg | apply f_ptr | apply f_fn | apply dv_slice | apply sv_d | apply f_cons | apply fold_nil | apply fold_cons | apply fold_app | apply f_rowI | apply f_rowY | apply f_rowS | apply f_rowB | apply f_rowL) | (with_reducible apply f_byte; decide))); done))) | ((with_reducible apply svle_td); (focus (first | (simp only [push_cast, seval]; rfl) | rfl)); (focus (first | (simp only [push_cast, seval]; rfl) | rfl)); (focus ((repeat' (first | rfl | (with_reducible first | apply fT_Tapi_Segment | apply fT_Tapi_Element | apply fT_Tscheme_pathed | apply fT_Tapi_Branch | apply f_optN | apply f_optS | apply f_some | apply f_tup | apply f_agg | apply f_ptr | apply f_fn | apply dv_slice | apply sv_d | apply f_cons | apply fold_nil | apply fold_cons | apply fold_app | apply f_rowI | apply f_rowY | apply f_rowS | apply f_rowB | apply f_rowL) | (with_reducible apply f_byte; decide))); done))) | ((with_reducible apply cle_own); (focus rfl); (focus ((repeat' (first | rfl | (with_reducible first | apply fT_Tapi_Segment | apply fT_Tapi_Element | apply fT_Tscheme_pathed | apply fT_Tapi_Branch | apply f_optN | apply f_optS | apply f_some | apply f_tup | apply f_agg | apply f_ptr | apply f_fn | apply dv_slice | apply sv_d | apply f_cons | apply fold_nil | apply fold_cons | apply fold_app | apply f_rowI | apply f_rowY | apply f_rowS | apply f_rowB | apply f_rowL) | (with_reducible apply f_byte; decide))); done))) | ((with_reducible apply cle_nil); (focus rfl)))); done)); (focus rfl); (first | apply spec_interchange_scheme_pathed_branch _ _ _ | apply spec_kit_IsName _ | apply spec_scheme_isZero _ | apply spec_wire_CheckSegments _ | apply spec_interchange_scheme_pathed_list _ _ _); (any_goals (focus ((repeat' (first | rfl | (with_reducible first | apply fT_Tapi_Segment | apply fT_Tapi_Element | apply fT_Tscheme_pathed | apply fT_Tapi_Branch | apply f_optN | apply f_optS | apply f_some | apply f_tup | apply f_agg | apply f_ptr | apply f_fn | apply dv_slice | apply sv_d | apply f_cons | apply fold_nil | apply fold_cons | apply fold_app | apply f_rowI | apply f_rowY | apply f_rowS | apply f_rowB | apply f_rowL) | (with_reducible apply f_byte; decide))); done))); (focus (intro _; exact ⟨rfl, rfl, rfl⟩)); intro y hm)) | (((with_reducible apply K_endP hm (ms := [.sh])); (focus (exact Imp.refl _)); (focus (simp only [push_cast, seval]; (try rfl); done)); (focus ((repeat' (first | (with_reducible first | apply oT_Tscheme_pathed | apply cT_Tapi_Segment | apply cT_Tapi_Element | apply cT_Tscheme_pathed | apply cT_Tapi_Branch | apply r_shS | apply r_shI | apply r_rflO | apply r_oneO | apply r_appO | apply r_nilO | apply c_ownN | apply c_ownL | apply vc_rfl | apply vc_nil | apply vc_cons | apply r_rfl | apply r_rows | apply r_nil | apply r_app | apply r_cons | apply c_rowI | apply c_rowY | apply c_rowS | apply c_rowB | apply c_rowL) | ((with_reducible apply svle_eq); (focus (first | (simp only [push_cast, seval]; rfl) | rfl)); (focus ((repeat' (first | rfl | (with_reducible first | apply fT_Tapi_Segment | apply fT_Tapi_Element | apply fT_Tscheme_pathed | apply fT_Tapi_Branch | apply f_optN | apply f_optS | apply f_some | apply f_tup | apply f_agg | apply f_ptr | apply f_fn | apply dv_slice | apply sv_d | apply f_cons | apply fold_nil | apply fold_cons | apply fold_app | apply f_rowI | apply f_rowY | apply f_rowS | apply f_rowB | apply f_rowL) | (with_reducible apply f_byte; decide))); done))) | ((with_reducible apply svle_td); (focus (first | (simp only [push_cast, seval]; rfl) | rfl)); (focus (first | (simp only [push_cast, seval]; rfl) | rfl)); (focus ((repeat' (first | rfl | (with_reducible first | apply fT_Tapi_Segment | apply fT_Tapi_Element | apply fT_Tscheme_pathed | apply fT_Tapi_Branch | apply f_optN | apply f_optS | apply f_some | apply f_tup | apply f_agg | apply f_ptr | apply f_fn | apply dv_slice | apply sv_d | apply f_cons | apply fold_nil | apply fold_cons | apply fold_app | apply f_rowI | apply f_rowY | apply f_rowS | apply f_rowB | apply f_rowL) | (with_reducible apply f_byte; decide))); done))) | ((with_reducible apply cle_own); (focus rfl); (focus ((repeat' (first | rfl | (with_reducible first | apply fT_Tapi_Segment | apply fT_Tapi_Element | apply fT_Tscheme_pathed | apply fT_Tapi_Branch | apply f_optN | apply f_optS | apply f_some | apply f_tup | apply f_agg | apply f_ptr | apply f_fn | apply dv_slice | apply sv_d | apply f_cons | apply fold_nil | apply fold_cons | apply fold_app | apply f_rowI | apply f_rowY | apply f_rowS | apply f_rowB | apply f_rowL) | (with_reducible apply f_byte; decide))); done))) | ((with_reducible apply cle_nil); (focus rfl)))); done)); (focus (intro _; rfl)); (focus (simp only [push_cast, seval]; (try rfl); done)); (focus (simp only [push_cast, seval]; (try rfl); done)); (focus (simp only [push_cast, seval]; (try rfl); done)); (focus (simp only [push_cast, seval]; (try rfl); done)); (focus (first | exact he_0 | (apply he_1; (focus ((repeat' (first | rfl | (with_reducible first | apply fT_Tapi_Segment | apply fT_Tapi_Element | apply fT_Tscheme_pathed | apply fT_Tapi_Branch | apply f_optN | apply f_optS | apply f_some | apply f_tup | apply f_agg | apply f_ptr | apply f_fn | apply dv_slice | apply sv_d | apply f_cons | apply fold_nil | apply fold_cons | apply fold_app | apply f_rowI | apply f_rowY | apply f_rowS | apply f_rowB | apply f_rowL) | (with_reducible apply f_byte; decide))); done))) | (apply he_n; (focus ((repeat' (first | rfl | (with_reducible first | apply fT_Tapi_Segment | apply fT_Tapi_Element | apply fT_Tscheme_pathed | apply fT_Tapi_Branch | apply f_optN | apply f_optS | apply f_some | apply f_tup | apply f_agg | apply f_ptr | apply f_fn | apply dv_slice | apply sv_d | apply f_cons | apply fold_nil | apply fold_cons | apply fold_app | apply f_rowI | apply f_rowY | apply f_rowS | apply f_rowB | apply f_rowL) | (with_reducible apply f_byte; decide))); done))))))) | ((with_reducible apply K_neverF hm)) | (((with_reducible apply LoopB.of); (focus (first | (dsimp only; done) | (dsimp only; rfl) | rfl)); (focus ((intro _; repeat' (first | with_reducible exact impC_end | with_reducible exact impC_endF | with_reducible refine impC_seq ?_ | with_reducible refine impC_block ?_ | ((with_reducible refine impC_rnd ?_); intro _) | ((with_reducible refine impC_brk ?_); intro _))))); (intro s o hm; first | unfold sc_interchange_scheme_pathed_list_L1); rotate_left; intro s hm)) | (((apply imp_stT; (repeat' (first | with_reducible exact keepT_nil | with_reducible exact keepC_nil | with_reducible apply keepT_cons | with_reducible apply keepC_cons | ((with_reducible apply svle_eq); (focus (first | (simp only [push_cast, seval]; rfl) | rfl)); (focus ((repeat' (first | rfl | (with_reducible first | apply fT_Tapi_Segment | apply fT_Tapi_Element | apply fT_Tscheme_pathed | apply fT_Tapi_Branch | apply f_optN | apply f_optS | apply f_some | apply f_tup | apply f_agg | apply f_ptr | apply f_fn | apply dv_slice | apply sv_d | apply f_cons | apply fold_nil | apply fold_cons | apply fold_app | apply f_rowI | apply f_rowY | apply f_rowS | apply f_rowB | apply f_rowL) | (with_reducible apply f_byte; decide))); done))) | ((with_reducible apply svle_td); (focus (first | (simp only [push_cast, seval]; rfl) | rfl)); (focus (first | (simp only [push_cast, seval]; rfl) | rfl)); (focus ((repeat' (first | rfl | (with_reducible first | apply fT_Tapi_Segment | apply fT_Tapi_Element | apply fT_Tscheme_pathed | apply fT_Tapi_Branch | apply f_optN | apply f_optS | apply f_some | apply f_tup | apply f_agg | apply f_ptr | apply f_fn | apply dv_slice | apply sv_d | apply f_cons | apply fold_nil | apply fold_cons | apply fold_app | apply f_rowI | apply f_rowY | apply f_rowS | apply f_rowB | apply f_rowL) | (with_reducible apply f_byte; decide))); done))) | ((with_reducible apply chle_eq); (focus (first | (simp only [push_cast, seval]; rfl) | rfl)); (first | with_reducible exact chle_rfl rfl | with_reducible exact chle_map0 | with_reducible apply chle_vec | with_reducible apply chle_box)) | (with_reducible first | apply cT_Tapi_Segment | apply cT_Tapi_Element | apply cT_Tscheme_pathed | apply cT_Tapi_Branch | apply bcT_Tscheme_pathed | apply r_shS | apply r_shI | apply r_rflO | apply r_oneO | apply r_appO | apply r_nilO | apply c_ownN | apply c_ownL | apply vc_rfl | apply vc_nil | apply vc_cons | apply r_rfl | apply r_rows | apply r_nil | apply r_app | apply r_cons | apply c_rowI | apply c_rowY | apply c_rowS | apply c_rowB | apply c_rowL))); done)))))
noncomputable def sims_G6_5_0 (fu : Nat) : (∀ (x0 : Tscheme_pathed) (x1 : List Tapi_Branch) (x2 : Int), {m : Option ((Int) × Tscheme_pathed) // ∀ r, m = some r → FSpec Tryz.prog 38 (.own (.pt [.sh]) (.ptr (rTscheme_pathed x0)) :: List.map SV.d ([.slice (List.map rTapi_Branch x1), .int .i64 x2] : List DV)) (.d (.int .i64 r.1)) (.own (.pt [.sh]) (.ptr (rTscheme_pathed r.2)) :: List.map SV.d ([.slice (List.map rTapi_Branch x1), .int .i64 x2] : List DV))}) × (∀ (x0 : Tscheme_pathed) (x1 : Tapi_Branch) (x2 : Int), {m : Option ((Int) × Tscheme_pathed) // ∀ r, m = some r → FSpec Tryz.prog 65 (.own (.pt [.sh]) (.ptr (rTscheme_pathed x0)) :: List.map SV.d ([.agg (rTapi_Branch x1), .int .i64 x2] : List DV)) (.d (.int .i64 r.1)) (.own (.pt [.sh]) (.ptr (rTscheme_pathed r.2)) :: List.map SV.d ([.agg (rTapi_Branch x1), .int .i64 x2] : List DV))}) := Nat.rec ⟨(fun x0 x1 x2 => ⟨none, fun r h => by cases h⟩), (fun x0 x1 x2 => ⟨none, fun r h => by cases h⟩)⟩ (fun _ ih => step_G6_5_0 ih) fu
noncomputable def m_interchange_scheme_pathed_list (fu : Nat) (x0 : Tscheme_pathed) (x1 : List Tapi_Branch) (x2 : Int) : Option ((Int) × Tscheme_pathed) := ((sims_G6_5_0 fu).1 x0 x1 x2).1
theorem m_interchange_scheme_pathed_list_fold (fu : Nat) (x0 : Tscheme_pathed) (x1 : List Tapi_Branch) (x2 : Int) : ((sims_G6_5_0 fu).1 x0 x1 x2).1 = m_interchange_scheme_pathed_list fu x0 x1 x2 := rfl
theorem m_interchange_scheme_pathed_list_succ (fu : Nat) (x0 : Tscheme_pathed) (x1 : List Tapi_Branch) (x2 : Int) : m_interchange_scheme_pathed_list (fu + 1) x0 x1 x2 = ((step_G6_5_0 (sims_G6_5_0 fu)).1 x0 x1 x2).1 := rfl
theorem spec_interchange_scheme_pathed_list (fu : Nat) (x0 : Tscheme_pathed) (x1 : List Tapi_Branch) (x2 : Int) : ∀ r, m_interchange_scheme_pathed_list fu x0 x1 x2 = some r → FSpec Tryz.prog 38 (.own (.pt [.sh]) (.ptr (rTscheme_pathed x0)) :: List.map SV.d ([.slice (List.map rTapi_Branch x1), .int .i64 x2] : List DV)) (.d (.int .i64 r.1)) (.own (.pt [.sh]) (.ptr (rTscheme_pathed r.2)) :: List.map SV.d ([.slice (List.map rTapi_Branch x1), .int .i64 x2] : List DV)) := ((sims_G6_5_0 fu).1 x0 x1 x2).2
noncomputable def m_interchange_scheme_pathed_branch (fu : Nat) (x0 : Tscheme_pathed) (x1 : Tapi_Branch) (x2 : Int) : Option ((Int) × Tscheme_pathed) := ((sims_G6_5_0 fu).2 x0 x1 x2).1
theorem m_interchange_scheme_pathed_branch_fold (fu : Nat) (x0 : Tscheme_pathed) (x1 : Tapi_Branch) (x2 : Int) : ((sims_G6_5_0 fu).2 x0 x1 x2).1 = m_interchange_scheme_pathed_branch fu x0 x1 x2 := rfl
theorem m_interchange_scheme_pathed_branch_succ (fu : Nat) (x0 : Tscheme_pathed) (x1 : Tapi_Branch) (x2 : Int) : m_interchange_scheme_pathed_branch (fu + 1) x0 x1 x2 = ((step_G6_5_0 (sims_G6_5_0 fu)).2 x0 x1 x2).1 := rfl
theorem spec_interchange_scheme_pathed_branch (fu : Nat) (x0 : Tscheme_pathed) (x1 : Tapi_Branch) (x2 : Int) : ∀ r, m_interchange_scheme_pathed_branch fu x0 x1 x2 = some r → FSpec Tryz.prog 65 (.own (.pt [.sh]) (.ptr (rTscheme_pathed x0)) :: List.map SV.d ([.agg (rTapi_Branch x1), .int .i64 x2] : List DV)) (.d (.int .i64 r.1)) (.own (.pt [.sh]) (.ptr (rTscheme_pathed r.2)) :: List.map SV.d ([.agg (rTapi_Branch x1), .int .i64 x2] : List DV)) := ((sims_G6_5_0 fu).2 x0 x1 x2).2

/-- interchange/scheme.CheckTree -/
def sc_scheme_CheckTree : SC :=
  (.seq (.reg [.r 2 (.mv (.c (.d (.int .i64 0))))])
  (.seq (.reg [.r 3 (.build [.d (.int .i64 0)] []),
     .w 4 (.boxM (.t 3)),
     .r 5 (.mv (.t 0)),
     .p (some 6) (.f 38) [.t 4, .t 5, .c (.d (.int .i64 0))],
     .r 2 (.mv (.t 6))])
  .ret))
theorem fit_scheme_CheckTree : fits Tryz.prog 18 Tryz.f18 sc_scheme_CheckTree [.t 2] 1 = true := by kernel_rfl

set_option maxRecDepth 100000 in
set_option maxHeartbeats 40000000 in
noncomputable def sims_G6_6_0 : (∀ (x0 : List Tapi_Branch), {m : Option (Int) // ∀ r, m = some r → PureSpec Tryz.prog 18 [.slice (List.map rTapi_Branch x0)] (.int .i64 r)}) := by
  (intro x0; apply Subtype.mk; intro r hm; apply pure_walk Tryz.func18 fit_scheme_CheckTree; unfold sc_scheme_CheckTree)
  repeat' (first | with_reducible refine W_seq ?_ | with_reducible refine W_reg ?_ | with_reducible refine W_block ?_ | with_reducible refine W_skip ?_ | with_reducible refine W_ret ?_ | with_reducible refine W_exit ?_ | with_reducible refine O_nil ?_ | with_reducible refine K_seq ?_ | with_reducible refine K_seqE ?_ | with_reducible refine K_seqR ?_ | with_reducible refine K_block ?_ | with_reducible refine K_blockR ?_ | with_reducible refine K_blockE ?_ | ((with_reducible apply K_blockN); decide) | ((with_reducible apply O_r); (simp only [push_cast, seval]; rfl); (first | exact trivial | omega)) | ((with_reducible apply W_condT); (focus (simp only [push_cast, seval]; done))) | ((with_reducible apply W_condF); (focus (simp only [push_cast, seval]; done))) | ((with_reducible apply O_cF hm); (simp only [push_cast, seval]; rfl); (first | apply spec_interchange_scheme_pathed_list FU _ _ _); (any_goals ((repeat' (first | rfl | (with_reducible first | apply fT_Tapi_Segment | apply fT_Tapi_Element | apply fT_Tscheme_pathed | apply fT_Tapi_Branch | apply f_optN | apply f_optS | apply f_some | apply f_tup | apply f_agg | apply f_ptr | apply f_fn | apply dv_slice | apply sv_d | apply f_cons | apply fold_nil | apply fold_cons | apply fold_app | apply f_rowI | apply f_rowY | apply f_rowS | apply f_rowB | apply f_rowL) | (with_reducible apply f_byte; decide))); done)); intro x hm) | ((with_reducible apply O_w); (simp only [push_cast, seval]; rfl); (first | exact trivial | omega)) | ((with_reducible apply S_condB hm); (simp only [push_cast, seval]; rfl); intro hm; rotate_left; intro hm) | ((with_reducible apply K_endS hm); (focus (simp only [resOf, resL, RV.get, push_cast, seval]; rfl)); (focus ((repeat' (first | rfl | (with_reducible first | apply fT_Tapi_Segment | apply fT_Tapi_Element | apply fT_Tscheme_pathed | apply fT_Tapi_Branch | apply f_optN | apply f_optS | apply f_some | apply f_tup | apply f_agg | apply f_ptr | apply f_fn | apply dv_slice | apply sv_d | apply f_cons | apply fold_nil | apply fold_cons | apply fold_app | apply f_rowI | apply f_rowY | apply f_rowS | apply f_rowB | apply f_rowL) | (with_reducible apply f_byte; decide))); done))) | (((with_reducible apply O_pM hm (id := 4) (ms := [.sh])); (focus (exact Imp.refl _)); (focus (simp only [push_cast, seval]; (try rfl); done)); (focus (simp only [push_cast, seval]; (try rfl); done)); (focus (simp only [push_cast, seval]; (try rfl); done)); (focus ((repeat' (first | (with_reducible first | apply oT_Tscheme_pathed | apply cT_Tapi_Segment | apply cT_Tapi_Element | apply cT_Tscheme_pathed | apply cT_Tapi_Branch | apply r_shS | apply r_shI | apply r_rflO | apply r_oneO | apply r_appO | apply r_nilO | apply c_ownN | apply c_ownL | apply vc_rfl | apply vc_nil | apply vc_cons | apply r_rfl | apply r_rows | apply r_nil | apply r_app | apply r_cons | apply c_rowI | apply c_rowY | apply c_rowS | apply c_rowB | apply c_rowL) | ((with_reducible apply svle_eq); (focus (first | (simp only [push_cast, seval]; rfl) | rfl)); (focus ((repeat' (first | rfl | (with_reducible first | apply fT_Tapi_Segment | apply fT_Tapi_Element | apply fT_Tscheme_pathed | apply fT_Tapi_Branch | apply f_optN | apply f_optS | apply f_some | apply f_tup | apply f_agg | apply f_ptr | apply f_fn | apply dv_slice | apply sv_d | apply f_cons | apply fold_nil | apply fold_cons | apply fold_app | apply f_rowI | apply f_rowY | apply f_rowS | apply f_rowB | apply f_rowL) | (with_reducible apply f_byte; decide))); done))) | ((with_reducible apply svle_td); (focus (first | (simp only [push_cast, seval]; rfl) | rfl)); (focus (first | (simp only [push_cast, seval]; rfl) | rfl)); (focus ((repeat' (first | rfl | (with_reducible first | apply fT_Tapi_Segment | apply fT_Tapi_Element | apply fT_Tscheme_pathed | apply fT_Tapi_Branch | apply f_optN | apply f_optS | apply f_some | apply f_tup | apply f_agg | apply f_ptr | apply f_fn | apply dv_slice | apply sv_d | apply f_cons | apply fold_nil | apply fold_cons | apply fold_app | apply f_rowI | apply f_rowY | apply f_rowS | apply f_rowB | apply f_rowL) | (with_reducible apply f_byte; decide))); done))) | ((with_reducible apply cle_own); (focus rfl); (focus ((repeat' (first | rfl | (with_reducible first | apply fT_Tapi_Segment | apply fT_Tapi_Element | apply fT_Tscheme_pathed | apply fT_Tapi_Branch | apply f_optN | apply f_optS | apply f_some | apply f_tup | apply f_agg | apply f_ptr | apply f_fn | apply dv_slice | apply sv_d | apply f_cons | apply fold_nil | apply fold_cons | apply fold_app | apply f_rowI | apply f_rowY | apply f_rowS | apply f_rowB | apply f_rowL) | (with_reducible apply f_byte; decide))); done))) | ((with_reducible apply cle_nil); (focus rfl)))); done)); (focus rfl); (first | apply spec_interchange_scheme_pathed_list FU _ _ _); (any_goals (focus ((repeat' (first | rfl | (with_reducible first | apply fT_Tapi_Segment | apply fT_Tapi_Element | apply fT_Tscheme_pathed | apply fT_Tapi_Branch | apply f_optN | apply f_optS | apply f_some | apply f_tup | apply f_agg | apply f_ptr | apply f_fn | apply dv_slice | apply sv_d | apply f_cons | apply fold_nil | apply fold_cons | apply fold_app | apply f_rowI | apply f_rowY | apply f_rowS | apply f_rowB | apply f_rowL) | (with_reducible apply f_byte; decide))); done))); (focus (intro _; exact ⟨rfl, rfl, rfl⟩)); intro y hm)))
noncomputable def m_scheme_CheckTree (x0 : List Tapi_Branch) : Option (Int) := (sims_G6_6_0 x0).1
theorem spec_scheme_CheckTree (x0 : List Tapi_Branch) : ∀ r, m_scheme_CheckTree x0 = some r → PureSpec Tryz.prog 18 [.slice (List.map rTapi_Branch x0)] (.int .i64 r) := (sims_G6_6_0 x0).2

end Go.Proofs.YtdkncdkdbddgoaaGreatDoor

/-
  A row that a call has made, as data.
-/
namespace Go.Proofs.YtdkncdkdbddgoaaGreatDoor
set_option linter.unusedSimpArgs false
set_option linter.unusedVariables false
open Go.RowKit Go.Lib
theorem dR_toDVs : ∀ (l : List DV), SV.toDVs (dR l) = some l
  | [] => rfl
  | d :: l => by
    have ih := dR_toDVs l
    simp only [dR, List.map_cons, SV.toDVs, SV.toDV] at ih ⊢
    rw [ih]
end Go.Proofs.YtdkncdkdbddgoaaGreatDoor

/-
  Calls whose result is an owned slice.
-/
namespace Go.Proofs.YtdkncdkdbddgoaaGreatDoor
set_option linter.unusedSimpArgs false
set_option linter.unusedVariables false
open Go.RowKit Go.Lib

theorem dR_flat : ∀ (rows : List (List DV)), (rows.map dR).flatten = dR rows.flatten
  | [] => rfl
  | r :: rows => by
    have ih := dR_flat rows
    simp only [dR, List.map_cons, List.flatten_cons, List.map_append] at ih ⊢
    rw [ih]
/-- A contract whose result is an owned slice, out of what the kit says of the call. -/
theorem own_spec {P : Program} {f : FuncId} {args : List DV} {rows : List (List DV)} {size e : Nat} (hcall : callable P f = true) (hall : ∀ r ∈ rows, r.length = size)
    (h : ∀ (w : World) (M : Nat → Prop) (vs : List Value), (∀ b, M b → b < w.heap.size) → RepL w M args vs → Calls P f vs.toArray w fun ev w' => ∃ v news, ev = .returned v ∧ w'.ownsRow w.heap.size e size v rows.length news ∧ RepL w M rows.flatten news ∧ (∀ u ∈ news, u.oneCell' = true) ∧ Below w.heap.size w w') :
    FSpec P f (args.map .d) (.own (.sl e (List.replicate size .sh)) (.slice rows)) (args.map .d) := by
  refine ⟨hcall, fun w M vs F hM hF hn hv _ _ => ?_⟩
  have hno : SV.noOwns (args.map SV.d) = true := toDVs_noOwns _ _ (dR_toDVs args)
  obtain ⟨hS, rfl⟩ := RepGL.to_S _ _ _ hno hv
  have hR := RepSL.toDVs _ _ _ hS (dR_toDVs args)
  refine (h w _ vs (fun b hb => by rcases hb with hb | hb; exact (hM b hb).1; cases hb) hR).mono ?_
  rintro ev w' ⟨v, news, rfl, ho, hnews, h1, hB⟩
  have hfresh : ∀ b ∈ blkL v, w.heap.size ≤ b ∧ b < w'.heap.size := by
    intro b hb
    rcases ho.2 with ⟨rfl, _⟩ | ⟨g, cap, cur, rfl, hb2, hg, _⟩
    · simp [blkL, blk] at hb
    · simp [blkL, blk] at hb
      subst hb
      exact ⟨hb2, (Array.getElem?_eq_some_iff.1 hg).1⟩
  have hext : Ext w (fun b => M b ∨ b ∈ ([] : List Nat)) w' (fun b => M b ∨ b ∈ [] ++ blkL v) := ⟨hB.size, fun b hb hm => ⟨hB.block b hb, fun hm' => by
    rcases hm' with hm' | hm'
    · exact hm (.inl hm')
    · have := (hfresh b (by simpa using hm')).1; omega⟩⟩
  refine ⟨v, [], blkL v, rfl, RepGL.of_S _ _ (RepSL.of_d (hR.ext hext)), ?_, ?_, ?_, Chg.of_below hB⟩
  · unfold RepG RepO
    refine ⟨rows, news, [], rfl, ⟨by simpa using ho.1, ?_⟩, h1, by simpa using hall, ?_, by simp⟩
    · rcases ho.2 with hn | ⟨g, cap, cur, hv, hb, rest⟩
      · exact .inl hn
      · simp only [List.length_replicate]
        exact .inr ⟨g, cap, cur, hv, Nat.zero_le _, rest⟩
    · refine (ownRows_iff (κ := κ0) (by simpa using hall)).1 ?_
      have e1 : rows.map (ownR (List.replicate size .sh)) = rows.map dR := List.map_congr_left fun r hr => by
        have := ownR_sh (row := fun _ : Unit => r) (n := size) (fun _ => hall r hr) [()]
        simpa [vrow] using this
      rw [e1, dR_flat]
      exact RepGL.of_S _ _ (RepSL.of_d (hnews.ext hext))
  · cases hv' : blk v with
    | none => simp [blkL, hv']
    | some b => simp [blkL, hv']
  · intro b hb
    have := hfresh b (by simpa using hb)
    exact ⟨.inr this.1, this.2⟩

end Go.Proofs.YtdkncdkdbddgoaaGreatDoor

/-
  slices.Clone at any element type, as a contract over data values: what comes back is owned.
-/
namespace Go.Proofs.YtdkncdkdbddgoaaGreatDoor
set_option linter.unusedSimpArgs false
set_option linter.unusedVariables false
open Go.RowKit Go.Shelf Go.Lib
variable {P : Program} {ρ : Ren}

set_option maxHeartbeats 2000000 in
set_option maxRecDepth 100000 in
/-- A slice of length 0 that is not nil, whatever its address. -/
theorem clone_zero (L : SlLaysE0.n41 P ρ) (i0 : TypeInfo) (z : Value) (size bytes : Nat) (hi : P.info? (ρ.t 23) = some i0) (hz0 : i0.zero = some z) (hz1 : i0.size = size) (hz2 : i0.bytes = bytes) (hzs : z.cells.size = size) (hsz : 0 < size)
    (z23 : ∀ w, (Go.sizeOf (ρ.t 23)).run P w = .ok size w) (p : Addr) (c : Nat) (w : World) :
    Calls P (ρ.f 41) #[.slice (some p) 0 c] w fun e w' => ∃ v', e = .returned v' ∧ w'.ownsRow w.heap.size (ρ.t 23) size v' 0 [] ∧ Below w.heap.size w w' := by
  have mixed := L.mixed; have t4 := L.t4; have a4 := L.a4; have z4 := L.z4; have v4 := L.v4; have t22 := L.t22; have a22 := L.a22; have z22 := L.z22; have v22 := L.v22
  have q22 : ∀ (w : World) (a : Option Addr) (n c n' c' : Nat), (binOp .eql (ρ.t 22) (.slice a n c) (.slice none n' c')).run P w = .ok (.bool a.isNone) w := fun w a n c n' c' => Lib.run_eql_slice_nil w _ _ a n c n' c' L.t22
  have u22 : ∀ w, Sem.run P (underlying (ρ.t 22)) w = .ok (TypeDesc.slice (ρ.t 23)) w := run_underlying t22
  obtain ⟨_, _, FG⟩ := L.f41
  go_enter FG, SlBodyN.n41_ntmps ρ
  go_wp2_with (at_builtin; refine wpList_append_own _ rfl _ _ (ρ.t 22) rfl w.heap.size (ρ.t 23) i0 z size bytes t22 hi hz0 hz1 hz2 hzs hsz _ _ _ rfl (World.ownsRow_made w #[] 0 (Nat.le_refl _) (Nat.zero_le _) (by simp)) p 0 c [] rfl ?qc1 ?qc2 ?qc3 ?qc4 ?qc5 ?qc6 ?_)
  case qc1 => simp
  case qc2 => intro j u hj; simp at hj
  case qc3 => simp
  case qc4 => simp
  case qc5 => simp
  case qc6 => simp
  intro v' w1 hown hgrow hnil
  go_wp2
  go_ret
  exact ⟨v', rfl, by simpa using hown, ((Below.refl _ w).alloc (Nat.le_refl _) _).grown hgrow (by simp) (by intro k hk; simp [Value.ownBlock] at hk; omega)⟩

theorem clone_own (L : SlLaysE0.n41 P ρ) (i0 : TypeInfo) (z : Value) (size bytes : Nat) (hi : P.info? (ρ.t 23) = some i0) (hz0 : i0.zero = some z) (hz1 : i0.size = size) (hz2 : i0.bytes = bytes) (hzs : z.cells.size = size) (hsz : 0 < size) (hby : bytes ≤ 1024)
    (z23 : ∀ w, (Go.sizeOf (ρ.t 23)).run P w = .ok size w) (hcall : callable P (ρ.f 41) = true) (rows : List (List DV)) (hall : ∀ r ∈ rows, r.length = size) (hlen : rows.length ≤ 137438953472) : FSpec P (ρ.f 41) (([.slice rows] : List DV).map .d) (.own (.sl (ρ.t 23) (List.replicate size .sh)) (.slice rows)) (([.slice rows] : List DV).map .d) := by
  refine own_spec hcall hall (fun w M vs hM hv => ?_)
  simp only [RepL] at hv
  obtain ⟨u, us, rfl, hu, rfl⟩ := hv
  have hS : RepS w M (fun _ => .pointer none) (.d (.slice rows)) u := by simpa only [RepS] using hu
  obtain ⟨ad, cap, news, hu', k1, k2, k3⟩ := rowsY_rep (sz := size) hS (rows2 := rows.map dR) rfl (by intro r hr; obtain ⟨q, hq, rfl⟩ := List.mem_map.1 hr; simp [dR, hall q hq])
  simp only [List.length_map] at hu'
  subst hu'
  rw [dR_flatten] at k1
  have k1' : RepL w M rows.flatten news := RepSL.toDVs _ _ _ k1 (dR_toDVs _)
  have zero : ∀ (a : Option Addr), rows = [] → Calls P (ρ.f 41) #[.slice a 0 cap] w fun e w' => ∃ v news, e = .returned v ∧ w'.ownsRow w.heap.size (ρ.t 23) size v 0 news ∧ RepL w M ([] : List (List DV)).flatten news ∧ (∀ u ∈ news, u.oneCell' = true) ∧ Below w.heap.size w w' := by
    intro a hr
    subst hr
    cases a with
    | none =>
      refine (AnyE.slices_Clone_nil L 0 cap w).mono ?_
      rintro e w' ⟨rfl, rfl⟩
      exact ⟨_, [], rfl, ⟨by simp, .inl ⟨rfl, rfl⟩⟩, by simp [RepL], by simp, Below.refl _ _⟩
    | some p =>
      refine (clone_zero L i0 z size bytes hi hz0 hz1 hz2 hzs hsz z23 p cap w).mono ?_
      rintro e w' ⟨v', rfl, ho, hB⟩
      exact ⟨v', [], rfl, ho, by simp [RepL], by simp, hB⟩
  rcases k3 with ⟨hr, hn⟩ | ⟨b, o, rfl, hcells⟩
  · have hr' : rows = [] := by simpa using hr
    have := zero ad hr'
    subst hr'
    exact this
  · have hbytes : rows.length * bytes ≤ 140737488355328 := by
      have := Nat.mul_le_mul hlen hby
      omega
    refine (AnyE.slices_Clone L i0 z size bytes hi hz0 hz1 hz2 hzs hsz z23 b o rows.length cap news w (by rw [← flatten_len hall]; exact k1'.len) (by unfold maxLen; omega) hbytes hcells k2).mono ?_
    rintro e w' ⟨v', rfl, ho, _, hB⟩
    exact ⟨v', news, rfl, ho, k1', k2, hB⟩
end Go.Proofs.YtdkncdkdbddgoaaGreatDoor

/-
  DERIVED: THE SHELF's CONTRACTS AT THIS DUMP, IN PLAIN WORDS (tools/lay-plain.mjs out of 'YtdkncdkdbddgoaaGreatDoorShelfC.lean', which tools/lay-shelf.mjs wrote): THE SAME DECLARATIONS UNDER THE SAME NAMES: 'import', 'namespace', 'open', 'def', 'theorem' AND NOTHING ELSE: no command of the shelf's: FOR A HAND-IN. Each laying: the table of numbers ('.._ren') and one theorem, a field a fact of the dump's own or the kernel's comparison; each contract: ONE APPLICATION.
-/
namespace Go.Proofs
open Go.Shelf
def Tryz.lays41_78_ren : Go.Shelf.Ren := ⟨fun | 41 => 78 | n => n, fun | 22 => 58 | 23 => 94 | 4 => 4 | n => n, fun | n => n⟩
theorem Tryz.lays41_78 : Go.Proofs.SlLaysE0.n41 Tryz.prog Tryz.lays41_78_ren := {
  mixed := by kernel_rfl
  f41 := ⟨Tryz.f78.name, by decide, Tryz.func78.trans (congrArg some (by kernel_rfl))⟩
  t4 := Tryz.underlying4
  a4 := Tryz.isAgg4
  z4 := Tryz.sizeOf4
  v4 := Tryz.zeroValue4
  t22 := Tryz.underlying58
  a22 := Tryz.isAgg58
  z22 := Tryz.sizeOf58
  v22 := Tryz.zeroValue58 }
def Tryz.lays41_79_ren : Go.Shelf.Ren := ⟨fun | 41 => 79 | n => n, fun | 22 => 92 | 23 => 23 | 4 => 4 | n => n, fun | n => n⟩
theorem Tryz.lays41_79 : Go.Proofs.SlLaysE0.n41 Tryz.prog Tryz.lays41_79_ren := {
  mixed := by kernel_rfl
  f41 := ⟨Tryz.f79.name, by decide, Tryz.func79.trans (congrArg some (by kernel_rfl))⟩
  t4 := Tryz.underlying4
  a4 := Tryz.isAgg4
  z4 := Tryz.sizeOf4
  v4 := Tryz.zeroValue4
  t22 := Tryz.underlying92
  a22 := Tryz.isAgg92
  z22 := Tryz.sizeOf92
  v22 := Tryz.zeroValue92 }
def Tryz.lays41_80_ren : Go.Shelf.Ren := ⟨fun | 41 => 80 | n => n, fun | 22 => 23 | 23 => 9 | 4 => 4 | n => n, fun | n => n⟩
theorem Tryz.lays41_80 : Go.Proofs.SlLaysE0.n41 Tryz.prog Tryz.lays41_80_ren := {
  mixed := by kernel_rfl
  f41 := ⟨Tryz.f80.name, by decide, Tryz.func80.trans (congrArg some (by kernel_rfl))⟩
  t4 := Tryz.underlying4
  a4 := Tryz.isAgg4
  z4 := Tryz.sizeOf4
  v4 := Tryz.zeroValue4
  t22 := Tryz.underlying23
  a22 := Tryz.isAgg23
  z22 := Tryz.sizeOf23
  v22 := Tryz.zeroValue23 }
def Tryz.lays41_52_ren : Go.Shelf.Ren := ⟨fun | 41 => 52 | n => n, fun | 22 => 22 | 23 => 62 | 4 => 4 | n => n, fun | n => n⟩
theorem Tryz.lays41_52 : Go.Proofs.SlLaysE0.n41 Tryz.prog Tryz.lays41_52_ren := {
  mixed := by kernel_rfl
  f41 := ⟨Tryz.f52.name, by decide, Tryz.func52.trans (congrArg some (by kernel_rfl))⟩
  t4 := Tryz.underlying4
  a4 := Tryz.isAgg4
  z4 := Tryz.sizeOf4
  v4 := Tryz.zeroValue4
  t22 := Tryz.underlying22
  a22 := Tryz.isAgg22
  z22 := Tryz.sizeOf22
  v22 := Tryz.zeroValue22 }
end Go.Proofs

/-
  slices.Clone at some types.
-/
namespace Go.Proofs.YtdkncdkdbddgoaaGreatDoor
open Go.RowKit Go.Shelf Go.Lib
def m_slices_Clone_interchange_api_Element_interchange_api_Element (l : List Tapi_Element) : Option (List Tapi_Element) := if l.length ≤ 137438953472 then some l else none
theorem spec_slices_Clone_interchange_api_Element_interchange_api_Element (l : List Tapi_Element) : ∀ r, m_slices_Clone_interchange_api_Element_interchange_api_Element l = some r → FSpec Tryz.prog 78 (([.slice (List.map rTapi_Element l)] : List DV).map .d) (.own (.sl 94 (List.replicate 1 .sh)) (.slice (List.map rTapi_Element r))) (([.slice (List.map rTapi_Element l)] : List DV).map .d) := by
  intro r hr
  unfold m_slices_Clone_interchange_api_Element_interchange_api_Element at hr
  split at hr
  · rename_i hlen
    cases hr
    exact clone_own Tryz.lays41_78 (i0 := (Tryz.prog.info? 94).get (by kernel_rfl)) (z := ((Tryz.prog.info? 94).get (by kernel_rfl)).zero.get (by kernel_rfl)) (size := 1) (bytes := ((Tryz.prog.info? 94).get (by kernel_rfl)).bytes) (Option.some_get _).symm (Option.some_get _).symm (by kernel_rfl) rfl (by kernel_rfl) (by decide) (of_decide_eq_true (by kernel_rfl)) Tryz.sizeOf94 (by kernel_rfl) (List.map rTapi_Element l) (by intro r hr; obtain ⟨b, _, rfl⟩ := List.mem_map.1 hr; rfl) (by simpa using hlen)
  · cases hr
def m_slices_Clone_LLstring_Lstring (l : List (List (List UInt8))) : Option (List (List (List UInt8))) := if l.length ≤ 137438953472 then some l else none
theorem spec_slices_Clone_LLstring_Lstring (l : List (List (List UInt8))) : ∀ r, m_slices_Clone_LLstring_Lstring l = some r → FSpec Tryz.prog 79 (([.slice (List.map (rowL rowS) l)] : List DV).map .d) (.own (.sl 23 (List.replicate 1 .sh)) (.slice (List.map (rowL rowS) r))) (([.slice (List.map (rowL rowS) l)] : List DV).map .d) := by
  intro r hr
  unfold m_slices_Clone_LLstring_Lstring at hr
  split at hr
  · rename_i hlen
    cases hr
    exact clone_own Tryz.lays41_79 (i0 := (Tryz.prog.info? 23).get (by kernel_rfl)) (z := ((Tryz.prog.info? 23).get (by kernel_rfl)).zero.get (by kernel_rfl)) (size := 1) (bytes := ((Tryz.prog.info? 23).get (by kernel_rfl)).bytes) (Option.some_get _).symm (Option.some_get _).symm (by kernel_rfl) rfl (by kernel_rfl) (by decide) (of_decide_eq_true (by kernel_rfl)) Tryz.sizeOf23 (by kernel_rfl) (List.map (rowL rowS) l) (by intro r hr; obtain ⟨b, _, rfl⟩ := List.mem_map.1 hr; rfl) (by simpa using hlen)
  · cases hr
def m_slices_Clone_Lstring_string (l : List (List UInt8)) : Option (List (List UInt8)) := if l.length ≤ 137438953472 then some l else none
theorem spec_slices_Clone_Lstring_string (l : List (List UInt8)) : ∀ r, m_slices_Clone_Lstring_string l = some r → FSpec Tryz.prog 80 (([.slice (List.map rowS l)] : List DV).map .d) (.own (.sl 9 (List.replicate 1 .sh)) (.slice (List.map rowS r))) (([.slice (List.map rowS l)] : List DV).map .d) := by
  intro r hr
  unfold m_slices_Clone_Lstring_string at hr
  split at hr
  · rename_i hlen
    cases hr
    exact clone_own Tryz.lays41_80 (i0 := (Tryz.prog.info? 9).get (by kernel_rfl)) (z := ((Tryz.prog.info? 9).get (by kernel_rfl)).zero.get (by kernel_rfl)) (size := 1) (bytes := ((Tryz.prog.info? 9).get (by kernel_rfl)).bytes) (Option.some_get _).symm (Option.some_get _).symm (by kernel_rfl) rfl (by kernel_rfl) (by decide) (of_decide_eq_true (by kernel_rfl)) Tryz.sizeOf9 (by kernel_rfl) (List.map rowS l) (by intro r hr; obtain ⟨b, _, rfl⟩ := List.mem_map.1 hr; rfl) (by simpa using hlen)
  · cases hr
def m_slices_Clone_interchange_api_Branch_interchange_api_Branch (l : List Tapi_Branch) : Option (List Tapi_Branch) := if l.length ≤ 137438953472 then some l else none
theorem spec_slices_Clone_interchange_api_Branch_interchange_api_Branch (l : List Tapi_Branch) : ∀ r, m_slices_Clone_interchange_api_Branch_interchange_api_Branch l = some r → FSpec Tryz.prog 52 (([.slice (List.map rTapi_Branch l)] : List DV).map .d) (.own (.sl 62 (List.replicate 4 .sh)) (.slice (List.map rTapi_Branch r))) (([.slice (List.map rTapi_Branch l)] : List DV).map .d) := by
  intro r hr
  unfold m_slices_Clone_interchange_api_Branch_interchange_api_Branch at hr
  split at hr
  · rename_i hlen
    cases hr
    exact clone_own Tryz.lays41_52 (i0 := (Tryz.prog.info? 62).get (by kernel_rfl)) (z := ((Tryz.prog.info? 62).get (by kernel_rfl)).zero.get (by kernel_rfl)) (size := 4) (bytes := ((Tryz.prog.info? 62).get (by kernel_rfl)).bytes) (Option.some_get _).symm (Option.some_get _).symm (by kernel_rfl) rfl (by kernel_rfl) (by decide) (of_decide_eq_true (by kernel_rfl)) Tryz.sizeOf62 (by kernel_rfl) (List.map rTapi_Branch l) (by intro r hr; obtain ⟨b, _, rfl⟩ := List.mem_map.1 hr; rfl) (by simpa using hlen)
  · cases hr
end Go.Proofs.YtdkncdkdbddgoaaGreatDoor

/-
  The bodies of some functions in the engine's form, printed by a program of mine (wip/tool/sc.py) out of the translation; each is held against the translation by the kernel.
-/
namespace Go.Proofs.YtdkncdkdbddgoaaGreatDoor

def sc_wire_Clone_L1 : SC :=
  (.seq (.reg [.r 31 (.bin .lss (.t 30) (.t 29))])
  (.seq (.cond (.t 31)
    .skip
    (.exit 2))
  (.seq (.block 3 (.seq (.reg [.r 32 (.mv (.t 30)),
       .r 33 (.idx 1 (.t 28) (.t 30)),
       .o 34 (.ld1 (.t 33)),
       .r 5 (.mv (.t 32)),
       .r 6 (.mv (.t 34))])
    (.regE [.r 35 (.fld 1 (.t 1)),
       .r 36 (.ld1 (.t 35)),
       .r 37 (.mv (.t 3)),
       .r 38 (.idx 1 (.t 36) (.t 37)),
       .r 39 (.fld 0 (.t 38)),
       .r 40 (.ld1 (.t 39)),
       .r 41 (.mv (.t 5)),
       .r 42 (.mv (.t 6)),
       .q 43 (.f 80) [.t 42] [(0, 35, .fld 1 (.t 1)), (1, 36, .ld1 (.t 35)), (2, 37, .mv (.t 3)), (3, 38, .idx 1 (.t 36) (.t 37)), (4, 39, .fld 0 (.t 38)), (5, 40, .ld1 (.t 39)), (6, 41, .mv (.t 5))],
       .r 44 (.idx 1 (.t 40) (.t 41)),
       .x 0 (.st 1 (.t 44) (.t 43)) []])))
  (.reg [.r 45 (.bin .add (.t 30) (.c (.d (.int .i64 1)))),
     .r 30 (.mv (.t 45))]))))
def sc_wire_Clone_B1 : SC := .block 2 (.loop sc_wire_Clone_L1)
def sc_wire_Clone_L2 : SC :=
  (.seq (.reg [.r 15 (.bin .lss (.t 14) (.t 13))])
  (.seq (.cond (.t 15)
    .skip
    (.exit 0))
  (.seq (.block 1 (.seq (.reg [.r 16 (.mv (.t 14)),
       .r 17 (.idx 1 (.t 12) (.t 14)),
       .o 18 (.ldA 1 (.t 17)),
       .w 4 (.boxM (.c (.agg [.nils]))),
       .r 3 (.mv (.t 16)),
       .w 0 (.st 1 (.t 4) (.t 18))])
    (.seq (.regE [.r 19 (.fld 1 (.t 1)),
       .r 20 (.ld1 (.t 19)),
       .r 21 (.mv (.t 3)),
       .r 22 (.fld 0 (.t 4)),
       .r 23 (.ld1 (.t 22)),
       .q 24 (.f 79) [.t 23] [(0, 19, .fld 1 (.t 1)), (1, 20, .ld1 (.t 19)), (2, 21, .mv (.t 3))],
       .r 25 (.idx 1 (.t 20) (.t 21)),
       .r 26 (.fld 0 (.t 25)),
       .x 0 (.st 1 (.t 26) (.t 24)) []])
    (.seq (.reg [.r 27 (.fld 0 (.t 4)),
       .o 28 (.ld1 (.t 27)),
       .r 29 (.len (.t 28)),
       .r 30 (.mv (.c (.d (.int .i64 0))))])
    sc_wire_Clone_B1))))
  (.reg [.r 46 (.bin .add (.t 14) (.c (.d (.int .i64 1)))),
     .r 14 (.mv (.t 46))]))))
def sc_wire_Clone_B2 : SC := .block 0 (.loop sc_wire_Clone_L2)
/-- interchange/wire.Clone -/
def sc_wire_Clone : SC :=
  (.seq (.reg [.w 1 (.boxM (.t 0)),
     .w 2 (.boxM (.c (.agg [.d (.str []), .nils])))])
  (.seq (.reg [.r 7 (.fld 1 (.t 1)),
     .o 8 (.ld1 (.t 7)),
     .p (some 9) (.f 78) [.t 8],
     .r 10 (.fld 1 (.t 1)),
     .w 0 (.st 1 (.t 10) (.t 9))])
  (.seq (.seq (.reg [.r 11 (.fld 1 (.t 1)),
     .o 12 (.ld1 (.t 11)),
     .r 13 (.len (.t 12)),
     .r 14 (.mv (.c (.d (.int .i64 0))))])
  sc_wire_Clone_B2)
  (.seq (.reg [.o 47 (.ldA 2 (.t 1)),
     .w 0 (.st 2 (.t 2) (.t 47))])
  .ret))))
theorem fit_wire_Clone : fits Tryz.prog 53 Tryz.f53 sc_wire_Clone [.cell 2 2] 1 = true := by kernel_rfl

end Go.Proofs.YtdkncdkdbddgoaaGreatDoor

/-
  wire.Clone: a copy of a segment, all of which is owned.
-/
namespace Go.Proofs.YtdkncdkdbddgoaaGreatDoor
set_option linter.unusedSimpArgs false
set_option linter.unusedVariables false
open Go.RowKit

/-- The masks of a segment that owns all of its slices. -/
def msR : List Mask := [.sl 9 [.sh]]
def msE : List Mask := [.sl 23 msR]
def msS : List Mask := [.sh, .sl 94 msE]
def cloneOk (x : Tapi_Segment) : Prop := x.fElements.length ≤ 137438953472 ∧ ∀ e ∈ x.fElements, e.fRepeats.length ≤ 137438953472 ∧ ∀ p ∈ e.fRepeats, p.length ≤ 137438953472
instance (x : Tapi_Segment) : Decidable (cloneOk x) := by unfold cloneOk; infer_instance
def m_wire_Clone (x : Tapi_Segment) : Option Tapi_Segment := if cloneOk x then some x else none

theorem ownR_E0 (y : Tapi_Element) : ownR [.sh] (rTapi_Element y) = [.d (.slice (List.map (rowL rowS) y.fRepeats))] := rfl
theorem ownR_E (y : Tapi_Element) : ownR msE (rTapi_Element y) = [.own (.sl 23 msR) (.slice (List.map (rowL rowS) y.fRepeats))] := rfl
theorem ownR_R0 (y : List (List UInt8)) : ownR [.sh] (rowL rowS y) = [.d (.slice (List.map rowS y))] := rfl
theorem ownR_R (y : List (List UInt8)) : ownR msR (rowL rowS y) = [.own (.sl 9 [.sh]) (.slice (List.map rowS y))] := rfl

set_option maxRecDepth 100000
set_option maxHeartbeats 4000000

theorem own_wire_Clone (x : Tapi_Segment) (hx : cloneOk x) : FSpec Tryz.prog 53 (([.agg (rTapi_Segment x)] : List DV).map .d) (.agg (ownR msS (rTapi_Segment x))) (([.agg (rTapi_Segment x)] : List DV).map .d) := by
  obtain ⟨tag, els⟩ := x
  obtain ⟨hx1, hx2⟩ := hx
  dsimp only at hx1 hx2
  refine fspec_walkD (N := 48) (k := 1) Tryz.func53 fit_wire_Clone (by kernel_rfl) rfl rfl ?_
  unfold sc_wire_Clone
  repeat' (first | ((with_reducible apply O_pD); (focus (simp only [push_cast, seval]; rfl)); (focus exact spec_slices_Clone_interchange_api_Element_interchange_api_Element els els (by unfold m_slices_Clone_interchange_api_Element_interchange_api_Element; rw [if_pos hx1])); (focus rfl); (focus (intro _; rfl))) | with_reducible refine W_seq ?_ | with_reducible refine W_reg ?_ | with_reducible refine W_regD ?_ | with_reducible refine W_regE ?_ | with_reducible refine W_regP ?_ | with_reducible refine W_block ?_ | with_reducible refine W_skip ?_ | with_reducible refine W_ret ?_ | with_reducible refine W_exit ?_ | with_reducible refine O_nil ?_ | with_reducible refine K_seq ?_ | with_reducible refine K_seqE ?_ | with_reducible refine K_seqR ?_ | with_reducible refine K_block ?_ | with_reducible refine K_blockR ?_ | with_reducible refine K_blockE ?_ | with_reducible refine K_forE ?_ | with_reducible refine K_forR ?_ | with_reducible refine K_rndE ?_ | with_reducible refine K_rndR ?_ | with_reducible refine O_o2r ?_ | ((with_reducible apply K_blockN); decide) | ((with_reducible apply O_r); (focus (simp only [push_cast, seval]; rfl)); (focus (first | exact trivial | omega))) | ((with_reducible apply O_w); (focus (simp only [push_cast, seval]; rfl)); (focus (first | exact trivial | omega))) | ((with_reducible apply O_x); (focus (simp only [push_cast, seval]; rfl)); (focus (first | exact trivial | omega)); (focus exact Rer_nil)))
  · unfold sc_wire_Clone_B2 sc_wire_Clone_L2
    refine W_block ?_
    refine W_for (α := Unit) (b0 := 0) (c := 15) (k := 14) (n := 13) (t := 46) (fun i _ => st [(1, .ref 1 0), (2, .ref 2 0), (12, .vec 9), (13, .d (.int .i64 (els.length : Int))), (14, .d (.int .i64 (i : Int))), (48, .d (.agg (rTapi_Segment ⟨tag, els⟩)))]
      [(1, .box [.d (.str tag), .vec 9]), (2, .box [.d (.str []), .nils]), (9, .vec 94 1 (mixO msE [.sh] rTapi_Element els i))]) (fun _ _ => True) els.length () (by omega) (fun _ _ => rfl) (fun _ _ => rfl) ?h0 trivial ?body ?done
    case h0 => exact imp_st (by simp only [keepS, push_cast, seval, and_self]) (by simp only [keepH, push_cast, seval, mixO_zero, and_self])
    case body =>
      intro i _ hi _
      obtain ⟨y, hy⟩ : ∃ y, els[i]? = some y := ⟨els[i], List.getElem?_eq_getElem hi⟩
      have hmem : y ∈ els := List.mem_of_getElem? hy
      obtain ⟨hy1, hy2⟩ := hx2 y hmem
      have hpl : (vrowO msE rTapi_Element (els.take i)).length = i := by rw [vrowO_length]; simp; omega
      have e0 : mixO msE [.sh] rTapi_Element els i = zrow (vrowO msE rTapi_Element (els.take i)) [.d (.slice (List.map (rowL rowS) y.fRepeats))] (vrowO [.sh] rTapi_Element (els.drop (i + 1))) := by
        rw [mixO_zrow hy, ownR_E0]
      dsimp only
      rw [e0]
      repeat' (first | ((with_reducible apply O_idxK); (focus (simp only [push_cast, seval]; rfl)); (focus (simp only [push_cast, seval]; rfl)); (focus (simp only [push_cast, seval]; rfl)); (focus exact hpl); (focus rfl)) | ((with_reducible apply O_ldAK); (focus (simp only [push_cast, seval]; rfl)); (focus (simp only [push_cast, seval]; rfl)); (focus exact hpl); (focus (simp only [push_cast, seval]; rfl)); (focus rfl); (focus simp)) | ((with_reducible apply O_qD); (focus (simp only [push_cast, seval]; rfl)); (focus exact spec_slices_Clone_LLstring_Lstring y.fRepeats y.fRepeats (by unfold m_slices_Clone_LLstring_Lstring; rw [if_pos hy1])); (focus rfl); (focus (intro _; rfl)); (focus ((repeat' (first | exact Rer_nil | ((with_reducible apply Rer_cons); (focus (simp only [push_cast, seval]; rfl)); (focus exact trivial); (focus (simp only [push_cast, seval]))))); done))) | ((with_reducible apply O_stKx); (focus (simp only [push_cast, seval]; rfl)); (focus (simp only [push_cast, seval]; rfl)); (focus (simp only [push_cast, seval]; rfl)); (focus exact hpl); (focus simp); (focus (simp only [push_cast, seval]; rfl)); (focus exact Rer_nil)) | with_reducible refine W_seq ?_ | with_reducible refine W_reg ?_ | with_reducible refine W_regD ?_ | with_reducible refine W_regE ?_ | with_reducible refine W_regP ?_ | with_reducible refine W_block ?_ | with_reducible refine W_skip ?_ | with_reducible refine W_ret ?_ | with_reducible refine W_exit ?_ | with_reducible refine O_nil ?_ | with_reducible refine K_seq ?_ | with_reducible refine K_seqE ?_ | with_reducible refine K_seqR ?_ | with_reducible refine K_block ?_ | with_reducible refine K_blockR ?_ | with_reducible refine K_blockE ?_ | with_reducible refine K_forE ?_ | with_reducible refine K_forR ?_ | with_reducible refine K_rndE ?_ | with_reducible refine K_rndR ?_ | with_reducible refine O_o2r ?_ | ((with_reducible apply K_blockN); decide) | ((with_reducible apply O_r); (focus (simp only [push_cast, seval]; rfl)); (focus (first | exact trivial | omega))) | ((with_reducible apply O_w); (focus (simp only [push_cast, seval]; rfl)); (focus (first | exact trivial | omega))) | ((with_reducible apply O_x); (focus (simp only [push_cast, seval]; rfl)); (focus (first | exact trivial | omega)); (focus exact Rer_nil)))
      · unfold sc_wire_Clone_B1 sc_wire_Clone_L1
        refine W_block ?_
        refine W_for (α := Unit) (b0 := 2) (c := 31) (k := 30) (n := 29) (t := 45) (fun k _ => st [(1, .ref 1 0), (2, .ref 2 0), (3, .d (.int .i64 (i : Int))), (4, .ref 4 0), (12, .vec 9), (13, .d (.int .i64 (els.length : Int))), (14, .d (.int .i64 (i : Int))), (28, .d (.slice (List.map (rowL rowS) y.fRepeats))), (29, .d (.int .i64 (y.fRepeats.length : Int))), (30, .d (.int .i64 (k : Int))), (48, .d (.agg (rTapi_Segment ⟨tag, els⟩)))]
          [(1, .box [.d (.str tag), .vec 9]), (2, .box [.d (.str []), .nils]), (9, .vec 94 1 (zrow (vrowO msE rTapi_Element (els.take i)) [.vec 24] (vrowO [.sh] rTapi_Element (els.drop (i + 1))))), (24, .vec 23 1 (mixO msR [.sh] (rowL rowS) y.fRepeats k))]) (fun _ _ => True) y.fRepeats.length () (by omega) (fun _ _ => rfl) (fun _ _ => rfl) ?g0 trivial ?gbody ?gdone
        case g0 => exact imp_st (by simp only [keepS, push_cast, seval, and_self]) (by simp only [keepH, push_cast, seval, mixO_zero, List.replicate, and_self])
        case gbody =>
          intro k _ hk _
          obtain ⟨z, hz⟩ : ∃ z, y.fRepeats[k]? = some z := ⟨y.fRepeats[k], List.getElem?_eq_getElem hk⟩
          have hz1 := hy2 z (List.mem_of_getElem? hz)
          have hpl2 : (vrowO msR (rowL rowS) (y.fRepeats.take k)).length = k := by rw [vrowO_length]; simp; omega
          have e1 : mixO msR [.sh] (rowL rowS) y.fRepeats k = zrow (vrowO msR (rowL rowS) (y.fRepeats.take k)) [.d (.slice (List.map rowS z))] (vrowO [.sh] (rowL rowS) (y.fRepeats.drop (k + 1))) := by
            rw [mixO_zrow hz, ownR_R0]
          have e2 : mixO msR [.sh] (rowL rowS) y.fRepeats (k + 1) = zrow (vrowO msR (rowL rowS) (y.fRepeats.take k)) [.own (.sl 9 [.sh]) (.slice (List.map rowS z))] (vrowO [.sh] (rowL rowS) (y.fRepeats.drop (k + 1))) := by
            rw [← zrow_mixO hz, ownR_R]
          dsimp only
          rw [e1]
          repeat' (first | ((with_reducible apply O_idxK); (focus (simp only [push_cast, seval]; rfl)); (focus (simp only [push_cast, seval]; rfl)); (focus (simp only [push_cast, seval]; rfl)); (focus (first | exact hpl | exact hpl2)); (focus rfl)) | ((with_reducible apply O_idxD); (focus (simp only [push_cast, seval]; rfl)); (focus (simp only [push_cast, seval]; rfl)); (focus (intro _; rfl)); (focus exact getI_ofN hz)) | ((with_reducible apply O_ldK); (focus (simp only [push_cast, seval]; rfl)); (focus (simp only [push_cast, seval]; rfl)); (focus exact hpl); (focus (simp only [push_cast, seval]; rfl)); (focus rfl)) | ((with_reducible apply O_qD); (focus (simp only [push_cast, seval]; rfl)); (focus exact spec_slices_Clone_Lstring_string z z (by unfold m_slices_Clone_Lstring_string; rw [if_pos hz1])); (focus rfl); (focus (intro _; rfl)); (focus ((repeat' (first | exact Rer_nil | ((with_reducible apply Rer_idxK); (focus (simp only [push_cast, seval]; rfl)); (focus (simp only [push_cast, seval]; rfl)); (focus (simp only [push_cast, seval]; rfl)); (focus exact hpl); (focus rfl); (focus (simp only [push_cast, seval]; (try rfl); done))) | ((with_reducible apply Rer_ldK); (focus (simp only [push_cast, seval]; rfl)); (focus (simp only [push_cast, seval]; rfl)); (focus exact hpl); (focus (simp only [push_cast, seval]; rfl)); (focus rfl); (focus (simp only [push_cast, seval]; (try rfl); done))) | ((with_reducible apply Rer_cons); (focus (simp only [push_cast, seval]; rfl)); (focus exact trivial); (focus (simp only [push_cast, seval]))))); done))) | ((with_reducible apply O_stKx); (focus (simp only [push_cast, seval]; rfl)); (focus (simp only [push_cast, seval]; rfl)); (focus (simp only [push_cast, seval]; rfl)); (focus exact hpl2); (focus simp); (focus (simp only [push_cast, seval]; rfl)); (focus exact Rer_nil)) | with_reducible refine W_seq ?_ | with_reducible refine W_reg ?_ | with_reducible refine W_regD ?_ | with_reducible refine W_regE ?_ | with_reducible refine W_regP ?_ | with_reducible refine W_block ?_ | with_reducible refine W_skip ?_ | with_reducible refine W_ret ?_ | with_reducible refine W_exit ?_ | with_reducible refine O_nil ?_ | with_reducible refine K_seq ?_ | with_reducible refine K_seqE ?_ | with_reducible refine K_seqR ?_ | with_reducible refine K_block ?_ | with_reducible refine K_blockR ?_ | with_reducible refine K_blockE ?_ | with_reducible refine K_forE ?_ | with_reducible refine K_forR ?_ | with_reducible refine K_rndE ?_ | with_reducible refine K_rndR ?_ | with_reducible refine O_o2r ?_ | ((with_reducible apply K_blockN); decide) | ((with_reducible apply O_r); (focus (simp only [push_cast, seval]; rfl)); (focus (first | exact trivial | omega))) | ((with_reducible apply O_w); (focus (simp only [push_cast, seval]; rfl)); (focus (first | exact trivial | omega))) | ((with_reducible apply O_x); (focus (simp only [push_cast, seval]; rfl)); (focus (first | exact trivial | omega)); (focus exact Rer_nil)))
          · apply K_for ()
            (focus (simp only [push_cast, seval]))
            rotate_left
            (focus exact trivial)
            refine Imp.trans (imp_closeZ (id := 24) (cid := 43) (off := 0) (ms' := [.sh]) (row' := rowS) (y := z) (k := k) (by (simp only [push_cast, seval]; (try rfl); done)) (by (simp only [push_cast, seval]; (try rfl); done)) hpl2.symm (by (simp only [push_cast, seval]; (try rfl); done)) r_rflO rfl (fun _ => rfl) (by decide) (by (simp only [push_cast, seval]; (try rfl); done))) ?_
            exact imp_st (by simp only [keepS, push_cast, seval, and_self]) (by simp only [keepH, push_cast, seval, e2, and_self])
        case gdone =>
          intro _ _
          refine K_block ?_
          have e3 : mixO msE [.sh] rTapi_Element els (i + 1) = zrow (vrowO msE rTapi_Element (els.take i)) [.own (.sl 23 msR) (.slice (List.map (rowL rowS) y.fRepeats))] (vrowO [.sh] rTapi_Element (els.drop (i + 1))) := by
            rw [← zrow_mixO hy, ownR_E]
          dsimp only
          rw [mixO_all]
          apply K_for ()
          (focus (simp only [push_cast, seval]))
          rotate_left
          (focus exact trivial)
          refine Imp.trans (imp_closeZ (id := 9) (cid := 24) (off := 0) (ms' := msR) (row' := rowL rowS) (y := y.fRepeats) (k := i) (by (simp only [push_cast, seval]; (try rfl); done)) (by (simp only [push_cast, seval]; (try rfl); done)) hpl.symm (by (simp only [push_cast, seval]; (try rfl); done)) r_rflO rfl (fun _ => rfl) (by decide) (by (simp only [push_cast, seval]; (try rfl); done))) ?_
          exact imp_st (by simp only [keepS, push_cast, seval, and_self]) (by simp only [keepH, push_cast, seval, e3, and_self])
    case done =>
      intro _ _
      dsimp only
      rw [mixO_all]
      repeat' (first | with_reducible refine W_seq ?_ | with_reducible refine W_reg ?_ | with_reducible refine W_regD ?_ | with_reducible refine W_regE ?_ | with_reducible refine W_regP ?_ | with_reducible refine W_block ?_ | with_reducible refine W_skip ?_ | with_reducible refine W_ret ?_ | with_reducible refine W_exit ?_ | with_reducible refine O_nil ?_ | with_reducible refine K_seq ?_ | with_reducible refine K_seqE ?_ | with_reducible refine K_seqR ?_ | with_reducible refine K_block ?_ | with_reducible refine K_blockR ?_ | with_reducible refine K_blockE ?_ | with_reducible refine K_forE ?_ | with_reducible refine K_forR ?_ | with_reducible refine K_rndE ?_ | with_reducible refine K_rndR ?_ | with_reducible refine O_o2r ?_ | ((with_reducible apply K_blockN); decide) | ((with_reducible apply O_r); (focus (simp only [push_cast, seval]; rfl)); (focus (first | exact trivial | omega))) | ((with_reducible apply O_w); (focus (simp only [push_cast, seval]; rfl)); (focus (first | exact trivial | omega))) | ((with_reducible apply O_x); (focus (simp only [push_cast, seval]; rfl)); (focus (first | exact trivial | omega)); (focus exact Rer_nil)))
      · apply K_endO (r0 := (⟨tag, els⟩ : Tapi_Segment)) (r := ⟨tag, els⟩) (row := rTapi_Segment) rfl (Imp.refl _)
        (focus (simp only [push_cast, seval]; rfl))
        (focus (simp only [push_cast, seval]; rfl))
        (focus (simp only [push_cast, seval]; (try rfl); done))
        (focus exact ROkL.data rfl (ROk_vec (l := els) (row := rTapi_Element) (ms := msE) (by (simp only [push_cast, seval]; (try rfl); done)) rfl (fun _ => rfl) (by simp) ROkL.nil))
        (focus rfl)
theorem fspec_wire_Clone (x : Tapi_Segment) : ∀ r, m_wire_Clone x = some r → FSpec Tryz.prog 53 (([.agg (rTapi_Segment x)] : List DV).map .d) (.agg (ownR msS (rTapi_Segment r))) (([.agg (rTapi_Segment x)] : List DV).map .d) := by
  intro r hr
  unfold m_wire_Clone at hr
  split at hr
  · rename_i hx; cases hr; exact own_wire_Clone x hx
  · cases hr
end Go.Proofs.YtdkncdkdbddgoaaGreatDoor

/-
  wire.Clone, as a function that only computes.
-/
namespace Go.Proofs.YtdkncdkdbddgoaaGreatDoor
set_option linter.unusedSimpArgs false
set_option linter.unusedVariables false
open Go.RowKit

theorem spec_wire_Clone (x : Tapi_Segment) : ∀ r, m_wire_Clone x = some r → PureSpec Tryz.prog 53 [.agg (rTapi_Segment x)] (.agg (rTapi_Segment r)) := fun r hr =>
  ((fspec_wire_Clone x r hr).weak (ms' := [.sh, .sh]) rfl rfl).pure rfl
end Go.Proofs.YtdkncdkdbddgoaaGreatDoor
