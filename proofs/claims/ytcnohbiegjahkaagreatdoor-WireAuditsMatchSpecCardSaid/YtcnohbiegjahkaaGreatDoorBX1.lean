/-
  Texts of mine, one behind the other (SXShelf, SXLibT, SXLibS, SXShelfI, SXLibI, SXShelfV, SXLibV, SXG1, SXG1M, SXLibO, SXLibP, SXLibQ, SXLibHm, SXFU, SXGS, SXGA, SXGA2).
-/
import Derived.Ground.NamesProg
import Derived.Shelf.Strings.SlTrimAscii
import Derived.Shelf.Small.Strs
import Derived.Shelf.Strings.IndexAnyAll
import Derived.Test.YtcnohbiegjahkaaGreatDoorProg
import Derived.Test.YtcnohbiegjahkaaGreatDoorSXEngY
import Derived.KernelRfl
import Derived.Shelf.Strconv.Itoa3
import Derived.Shelf.Small.Wraps
import Derived.Shelf.Strconv.Atoi
import Derived.Test.YtcnohbiegjahkaaGreatDoorSXEngZz
import Derived.Test.YtcnohbiegjahkaaGreatDoorSXEngX
import Derived.Lib.SlBytesConst
import Derived.ArgAppend
import Derived.Test.YtcnohbiegjahkaaGreatDoorSXEngRp
import Derived.Test.YtcnohbiegjahkaaGreatDoorSXEngRq
/-
  DERIVED: THE SHELF's CONTRACTS AT THIS DUMP, IN PLAIN WORDS (tools/lay-plain.mjs out of 'YtcnohbiegjahkaaGreatDoorShelf.lean', which tools/lay-shelf.mjs wrote): THE SAME DECLARATIONS UNDER THE SAME NAMES: 'import', 'namespace', 'open', 'def', 'theorem' AND NOTHING ELSE: no command of the shelf's: FOR A HAND-IN. Each laying: the table of numbers ('.._ren') and one theorem, a field a fact of the dump's own or the kernel's comparison; each contract: ONE APPLICATION.
-/
namespace Go.Proofs
open Go.Shelf
def Tryz.lays160_ren : Go.Shelf.Ren := ⟨fun | 160 => 68 | 232 => 88 | 231 => 87 | 227 => 89 | 234 => 91 | 233 => 90 | 236 => 93 | 235 => 92 | 228 => 106 | 271 => 109 | 151 => 108 | 197 => 107 | 120 => 124 | 152 => 121 | 260 => 123 | 137 => 49 | 119 => 133 | 224 => 134 | 225 => 135 | 217 => 74 | 266 => 101 | n => n, fun | 9 => 9 | 4 => 4 | 3 => 3 | 5 => 5 | 117 => 130 | 116 => 129 | 0 => 0 | 124 => 133 | 21 => 21 | 105 => 144 | 46 => 142 | 119 => 174 | 139 => 177 | 138 => 176 | n => n, fun | 3 => 4 | 4 => 5 | n => n⟩
theorem Tryz.lays160 : Go.Proofs.Lays.n160 Tryz.prog Tryz.lays160_ren := {
  mixed := by kernel_rfl
  f119 := Tryz.func133.trans (congrArg some (by kernel_rfl))
  f120 := Tryz.func124.trans (congrArg some (by kernel_rfl))
  f137 := Tryz.func49.trans (congrArg some (by kernel_rfl))
  f151 := Tryz.func108.trans (congrArg some (by kernel_rfl))
  f152 := Tryz.func121.trans (congrArg some (by kernel_rfl))
  f160 := Tryz.func68.trans (congrArg some (by kernel_rfl))
  f197 := Tryz.func107.trans (congrArg some (by kernel_rfl))
  f217 := Tryz.func74.trans (congrArg some (by kernel_rfl))
  f224 := Tryz.func134.trans (congrArg some (by kernel_rfl))
  f225 := Tryz.func135.trans (congrArg some (by kernel_rfl))
  f227 := Tryz.func89.trans (congrArg some (by kernel_rfl))
  f228 := Tryz.func106.trans (congrArg some (by kernel_rfl))
  f231 := Tryz.func87.trans (congrArg some (by kernel_rfl))
  f232 := Tryz.func88.trans (congrArg some (by kernel_rfl))
  f233 := Tryz.func90.trans (congrArg some (by kernel_rfl))
  f234 := Tryz.func91.trans (congrArg some (by kernel_rfl))
  f235 := Tryz.func92.trans (congrArg some (by kernel_rfl))
  f236 := Tryz.func93.trans (congrArg some (by kernel_rfl))
  f260 := Tryz.func123.trans (congrArg some (by kernel_rfl))
  f266 := Tryz.func101.trans (congrArg some (by kernel_rfl))
  f271 := Tryz.func109.trans (congrArg some (by kernel_rfl))
  t0 := Tryz.underlying0
  a0 := Tryz.isAgg0
  z0 := Tryz.sizeOf0
  v0 := Tryz.zeroValue0
  t3 := Tryz.underlying3
  a3 := Tryz.isAgg3
  z3 := Tryz.sizeOf3
  v3 := Tryz.zeroValue3
  t4 := Tryz.underlying4
  a4 := Tryz.isAgg4
  z4 := Tryz.sizeOf4
  v4 := Tryz.zeroValue4
  t5 := Tryz.underlying5
  a5 := Tryz.isAgg5
  z5 := Tryz.sizeOf5
  v5 := Tryz.zeroValue5
  t9 := Tryz.underlying9
  a9 := Tryz.isAgg9
  z9 := Tryz.sizeOf9
  v9 := Tryz.zeroValue9
  t21 := Tryz.underlying21
  a21 := Tryz.isAgg21
  z21 := Tryz.sizeOf21
  v21 := Tryz.zeroValue21
  t46 := Tryz.underlying142
  a46 := Tryz.isAgg142
  z46 := Tryz.sizeOf142
  v46 := Tryz.zeroValue142
  t105 := Tryz.underlying144
  a105 := Tryz.isAgg144
  z105 := Tryz.sizeOf144
  v105 := Tryz.zeroValue144
  t116 := Tryz.underlying129
  a116 := Tryz.isAgg129
  z116 := Tryz.sizeOf129
  t117 := Tryz.underlying130
  a117 := Tryz.isAgg130
  z117 := Tryz.sizeOf130
  v117 := Tryz.zeroValue130
  t119 := Tryz.underlying174
  a119 := Tryz.isAgg174
  z119 := Tryz.sizeOf174
  t124 := Tryz.underlying133
  a124 := Tryz.isAgg133
  z124 := Tryz.sizeOf133
  v124 := Tryz.zeroValue133
  t138 := Tryz.underlying176
  a138 := Tryz.isAgg176
  z138 := Tryz.sizeOf176
  v138 := Tryz.zeroValue176
  t139 := Tryz.underlying177
  a139 := Tryz.isAgg177
  z139 := Tryz.sizeOf177
  v139 := Tryz.zeroValue177
  g3 := by kernel_rfl
  g4 := by kernel_rfl }
def Tryz.lays137_ren : Go.Shelf.Ren := ⟨fun | 137 => 49 | 217 => 74 | 266 => 101 | n => n, fun | 9 => 9 | 5 => 5 | 3 => 3 | n => n, fun | n => n⟩
theorem Tryz.lays137 : Go.Proofs.Lays.n137 Tryz.prog Tryz.lays137_ren := {
  mixed := by kernel_rfl
  f137 := Tryz.func49.trans (congrArg some (by kernel_rfl))
  f217 := Tryz.func74.trans (congrArg some (by kernel_rfl))
  f266 := Tryz.func101.trans (congrArg some (by kernel_rfl))
  t3 := Tryz.underlying3
  a3 := Tryz.isAgg3
  z3 := Tryz.sizeOf3
  v3 := Tryz.zeroValue3
  t5 := Tryz.underlying5
  a5 := Tryz.isAgg5
  z5 := Tryz.sizeOf5
  v5 := Tryz.zeroValue5
  t9 := Tryz.underlying9
  a9 := Tryz.isAgg9
  z9 := Tryz.sizeOf9
  v9 := Tryz.zeroValue9 }
def Tryz.lays150_ren : Go.Shelf.Ren := ⟨fun | 150 => 85 | 153 => 105 | 152 => 121 | 226 => 122 | 227 => 89 | 228 => 106 | 137 => 49 | 119 => 133 | 224 => 134 | 225 => 135 | 217 => 74 | 266 => 101 | n => n, fun | 9 => 9 | 4 => 4 | 3 => 3 | 5 => 5 | 21 => 21 | 117 => 130 | 116 => 129 | 0 => 0 | 46 => 142 | 124 => 133 | n => n, fun | n => n⟩
theorem Tryz.lays150 : Go.Proofs.Lays.n150 Tryz.prog Tryz.lays150_ren := {
  mixed := by kernel_rfl
  f119 := Tryz.func133.trans (congrArg some (by kernel_rfl))
  f137 := Tryz.func49.trans (congrArg some (by kernel_rfl))
  f150 := Tryz.func85.trans (congrArg some (by kernel_rfl))
  f152 := Tryz.func121.trans (congrArg some (by kernel_rfl))
  f153 := Tryz.func105.trans (congrArg some (by kernel_rfl))
  f217 := Tryz.func74.trans (congrArg some (by kernel_rfl))
  f224 := Tryz.func134.trans (congrArg some (by kernel_rfl))
  f225 := Tryz.func135.trans (congrArg some (by kernel_rfl))
  f226 := Tryz.func122.trans (congrArg some (by kernel_rfl))
  f227 := Tryz.func89.trans (congrArg some (by kernel_rfl))
  f228 := Tryz.func106.trans (congrArg some (by kernel_rfl))
  f266 := Tryz.func101.trans (congrArg some (by kernel_rfl))
  t0 := Tryz.underlying0
  a0 := Tryz.isAgg0
  z0 := Tryz.sizeOf0
  v0 := Tryz.zeroValue0
  t3 := Tryz.underlying3
  a3 := Tryz.isAgg3
  z3 := Tryz.sizeOf3
  v3 := Tryz.zeroValue3
  t4 := Tryz.underlying4
  a4 := Tryz.isAgg4
  z4 := Tryz.sizeOf4
  v4 := Tryz.zeroValue4
  t5 := Tryz.underlying5
  a5 := Tryz.isAgg5
  z5 := Tryz.sizeOf5
  v5 := Tryz.zeroValue5
  t9 := Tryz.underlying9
  a9 := Tryz.isAgg9
  z9 := Tryz.sizeOf9
  v9 := Tryz.zeroValue9
  t21 := Tryz.underlying21
  a21 := Tryz.isAgg21
  z21 := Tryz.sizeOf21
  v21 := Tryz.zeroValue21
  t46 := Tryz.underlying142
  a46 := Tryz.isAgg142
  z46 := Tryz.sizeOf142
  v46 := Tryz.zeroValue142
  t116 := Tryz.underlying129
  a116 := Tryz.isAgg129
  z116 := Tryz.sizeOf129
  t117 := Tryz.underlying130
  a117 := Tryz.isAgg130
  z117 := Tryz.sizeOf130
  v117 := Tryz.zeroValue130
  t124 := Tryz.underlying133
  a124 := Tryz.isAgg133
  z124 := Tryz.sizeOf133
  v124 := Tryz.zeroValue133 }
end Go.Proofs

/-
  strings.Trim at a set of ASCII bytes.
-/
namespace Go.Proofs.YtcnohbiegjahkaaGreatDoor
set_option linter.unusedSimpArgs false
set_option linter.unusedVariables false
open Go.RowKit Go.Shelf

def m_strings_Trim (s cs : List UInt8) : Option (List UInt8) := if s.length ≤ 9223372036854775807 ∧ cs.length < 4294967281 ∧ cs.all (fun b => decide (b.toNat < 128)) = true then some (Lib.trimS s cs) else none
theorem spec_strings_Trim (s cs : List UInt8) : ∀ r, m_strings_Trim s cs = some r → PureSpec Tryz.prog 68 [.str s, .str cs] (.str r) := by
  intro r hr
  unfold m_strings_Trim at hr
  split at hr
  · rename_i h
    obtain ⟨h1, h2, h3⟩ := h
    cases hr
    refine ⟨by kernel_rfl, fun w M vs hM hv _ => ?_⟩
    simp only [RepL, Rep] at hv
    obtain ⟨u, us, rfl, rfl, u', us', rfl, rfl, rfl⟩ := hv
    have hcon := Any.strings_Trim_laid Tryz.lays160 (by kernel_rfl) ⟨s.toArray⟩ ⟨cs.toArray⟩ w (by simpa [ByteArray.size] using h1) (by simpa [ByteArray.size] using h2) (ascii_of_all (by simpa using h3))
    refine Calls.mono hcon ?_
    rintro e w' ⟨rfl, hB⟩
    exact ⟨_, rfl, by simp [Rep], hB⟩
  · cases hr
end Go.Proofs.YtcnohbiegjahkaaGreatDoor

/-
  strings.IndexByte and strings.ContainsAny (of ASCII).
-/
namespace Go.Proofs.YtcnohbiegjahkaaGreatDoor
set_option linter.unusedSimpArgs false
set_option linter.unusedVariables false
open Go.RowKit Go.Shelf

def m_strings_IndexByte (s : List UInt8) (c : UInt8) : Option Int := some (Lib.indexByte s c)
theorem spec_strings_IndexByte (s : List UInt8) (c : UInt8) : ∀ r, m_strings_IndexByte s c = some r → PureSpec Tryz.prog 49 [.str s, .int .u8 c.toNat] (.int .i64 r) := by
  intro r hr
  cases hr
  refine ⟨by kernel_rfl, fun w M vs hM hv _ => ?_⟩
  simp only [RepL, Rep] at hv
  obtain ⟨u, us, rfl, rfl, u', us', rfl, rfl, rfl⟩ := hv
  have hcon := Any.strings_IndexByte Tryz.lays137 ⟨s.toArray⟩ (c.toNat : Int) w
  refine Calls.mono hcon ?_
  rintro e w' ⟨rfl, rfl⟩
  refine ⟨_, rfl, ?_, Below.refl _ _⟩
  simp only [Rep]
  have : ((c.toNat : Int)).toNat.toUInt8 = c := by simp
  rw [this]
def m_strings_ContainsAny (s cs : List UInt8) : Option Bool := if s.length < 4294967281 ∧ cs.length < 4294967281 ∧ s.all (fun b => decide (b.toNat < 128)) = true ∧ cs.all (fun b => decide (b.toNat < 128)) = true then some (Lib.containsAny s cs) else none
theorem spec_strings_ContainsAny (s cs : List UInt8) : ∀ r, m_strings_ContainsAny s cs = some r → PureSpec Tryz.prog 85 [.str s, .str cs] (.bool r) := by
  intro r hr
  unfold m_strings_ContainsAny at hr
  split at hr
  · rename_i h
    obtain ⟨h1, h2, h3, h4⟩ := h
    cases hr
    refine ⟨by kernel_rfl, fun w M vs hM hv _ => ?_⟩
    simp only [RepL, Rep] at hv
    obtain ⟨u, us, rfl, rfl, u', us', rfl, rfl, rfl⟩ := hv
    have asc : ∀ (l : List UInt8), l.all (fun b => decide (b.toNat < 128)) = true → ∀ (j : Nat) b, l[j]? = some b → b.toNat < 128 := fun l hl j b hb => by
      have := List.all_eq_true.1 hl b (List.mem_of_getElem? hb)
      simpa using this
    have hcon := Any.strings_ContainsAny_laid Tryz.lays150 (by kernel_rfl) ⟨s.toArray⟩ ⟨cs.toArray⟩ w (by simpa [ByteArray.size] using h1) (by simpa [ByteArray.size] using h2) (asc s h3) (asc cs h4)
    refine Calls.mono hcon ?_
    rintro e w' ⟨rfl, hB⟩
    exact ⟨_, rfl, by simp [Rep], hB⟩
  · cases hr
end Go.Proofs.YtcnohbiegjahkaaGreatDoor

/-
  DERIVED: THE SHELF's CONTRACTS AT THIS DUMP, IN PLAIN WORDS (tools/lay-plain.mjs out of 'YtcnohbiegjahkaaGreatDoorShelfI.lean', which tools/lay-shelf.mjs wrote): THE SAME DECLARATIONS UNDER THE SAME NAMES: 'import', 'namespace', 'open', 'def', 'theorem' AND NOTHING ELSE: no command of the shelf's: FOR A HAND-IN. Each laying: the table of numbers ('.._ren') and one theorem, a field a fact of the dump's own or the kernel's comparison; each contract: ONE APPLICATION.
-/
namespace Go.Proofs
open Go.Shelf
end Go.Proofs

/-
  strconv.Itoa, over the table of the powers of ten.
-/
namespace Go.Proofs.YtcnohbiegjahkaaGreatDoor
set_option linter.unusedSimpArgs false
set_option linter.unusedVariables false
open Go.RowKit Go.Shelf

end Go.Proofs.YtcnohbiegjahkaaGreatDoor

/-
  DERIVED: THE SHELF's CONTRACTS AT THIS DUMP, IN PLAIN WORDS (tools/lay-plain.mjs out of 'YtcnohbiegjahkaaGreatDoorShelfV.lean', which tools/lay-shelf.mjs wrote): THE SAME DECLARATIONS UNDER THE SAME NAMES: 'import', 'namespace', 'open', 'def', 'theorem' AND NOTHING ELSE: no command of the shelf's: FOR A HAND-IN. Each laying: the table of numbers ('.._ren') and one theorem, a field a fact of the dump's own or the kernel's comparison; each contract: ONE APPLICATION.
-/
namespace Go.Proofs
open Go.Shelf
def Tryz.lays172_ren : Go.Shelf.Ren := ⟨fun | 172 => 78 | 244 => 102 | 245 => 103 | 247 => 115 | 279 => 116 | 280 => 117 | 281 => 118 | 282 => 119 | 287 => 130 | 316 => 131 | 171 => 46 | 205 => 132 | 321 => 138 | 322 => 139 | 243 => 72 | 246 => 97 | 283 => 111 | 284 => 112 | 285 => 113 | 286 => 114 | 129 => 126 | 317 => 125 | 318 => 127 | 319 => 128 | 320 => 129 | 337 => 136 | 338 => 137 | n => n, fun | 9 => 9 | 3 => 3 | 75 => 119 | 76 => 120 | 4 => 4 | 5 => 5 | 167 => 154 | 37 => 47 | 0 => 0 | 85 => 155 | 2 => 2 | 168 => 157 | 53 => 149 | 175 => 167 | 46 => 142 | 210 => 171 | 127 => 180 | 145 => 183 | 143 => 181 | 21 => 21 | 171 => 148 | 173 => 152 | 212 => 163 | 51 => 164 | 20 => 20 | 213 => 165 | 232 => 184 | 233 => 185 | 80 => 186 | n => n, fun | 15 => 2 | 16 => 3 | 17 => 1 | 18 => 6 | 19 => 7 | n => n⟩
theorem Tryz.lays172 : Go.Proofs.Lays.n172 Tryz.prog Tryz.lays172_ren := {
  mixed := by kernel_rfl
  f129 := Tryz.func126.trans (congrArg some (by kernel_rfl))
  f171 := Tryz.func46.trans (congrArg some (by kernel_rfl))
  f172 := Tryz.func78.trans (congrArg some (by kernel_rfl))
  f205 := Tryz.func132.trans (congrArg some (by kernel_rfl))
  f243 := Tryz.func72.trans (congrArg some (by kernel_rfl))
  f244 := Tryz.func102.trans (congrArg some (by kernel_rfl))
  f245 := Tryz.func103.trans (congrArg some (by kernel_rfl))
  f246 := Tryz.func97.trans (congrArg some (by kernel_rfl))
  f247 := Tryz.func115.trans (congrArg some (by kernel_rfl))
  f279 := Tryz.func116.trans (congrArg some (by kernel_rfl))
  f280 := Tryz.func117.trans (congrArg some (by kernel_rfl))
  f281 := Tryz.func118.trans (congrArg some (by kernel_rfl))
  f282 := Tryz.func119.trans (congrArg some (by kernel_rfl))
  f283 := Tryz.func111.trans (congrArg some (by kernel_rfl))
  f284 := Tryz.func112.trans (congrArg some (by kernel_rfl))
  f285 := Tryz.func113.trans (congrArg some (by kernel_rfl))
  f286 := Tryz.func114.trans (congrArg some (by kernel_rfl))
  f287 := Tryz.func130.trans (congrArg some (by kernel_rfl))
  f316 := Tryz.func131.trans (congrArg some (by kernel_rfl))
  f317 := Tryz.func125.trans (congrArg some (by kernel_rfl))
  f318 := Tryz.func127.trans (congrArg some (by kernel_rfl))
  f319 := Tryz.func128.trans (congrArg some (by kernel_rfl))
  f320 := Tryz.func129.trans (congrArg some (by kernel_rfl))
  f321 := Tryz.func138.trans (congrArg some (by kernel_rfl))
  f322 := Tryz.func139.trans (congrArg some (by kernel_rfl))
  f337 := Tryz.func136.trans (congrArg some (by kernel_rfl))
  f338 := Tryz.func137.trans (congrArg some (by kernel_rfl))
  t0 := Tryz.underlying0
  a0 := Tryz.isAgg0
  z0 := Tryz.sizeOf0
  v0 := Tryz.zeroValue0
  t2 := Tryz.underlying2
  a2 := Tryz.isAgg2
  z2 := Tryz.sizeOf2
  v2 := Tryz.zeroValue2
  t3 := Tryz.underlying3
  a3 := Tryz.isAgg3
  z3 := Tryz.sizeOf3
  v3 := Tryz.zeroValue3
  t4 := Tryz.underlying4
  a4 := Tryz.isAgg4
  z4 := Tryz.sizeOf4
  v4 := Tryz.zeroValue4
  t5 := Tryz.underlying5
  a5 := Tryz.isAgg5
  z5 := Tryz.sizeOf5
  v5 := Tryz.zeroValue5
  t9 := Tryz.underlying9
  a9 := Tryz.isAgg9
  z9 := Tryz.sizeOf9
  v9 := Tryz.zeroValue9
  t20 := Tryz.underlying20
  a20 := Tryz.isAgg20
  z20 := Tryz.sizeOf20
  v20 := Tryz.zeroValue20
  t21 := Tryz.underlying21
  a21 := Tryz.isAgg21
  z21 := Tryz.sizeOf21
  v21 := Tryz.zeroValue21
  t37 := Tryz.underlying47
  a37 := Tryz.isAgg47
  z37 := Tryz.sizeOf47
  v37 := Tryz.zeroValue47
  t46 := Tryz.underlying142
  a46 := Tryz.isAgg142
  z46 := Tryz.sizeOf142
  v46 := Tryz.zeroValue142
  t51 := Tryz.underlying164
  a51 := Tryz.isAgg164
  z51 := Tryz.sizeOf164
  v51 := Tryz.zeroValue164
  t53 := Tryz.underlying149
  a53 := Tryz.isAgg149
  z53 := Tryz.sizeOf149
  v53 := Tryz.zeroValue149
  t75 := Tryz.underlying119
  a75 := Tryz.isAgg119
  z75 := Tryz.sizeOf119
  v75 := Tryz.zeroValue119
  t76 := Tryz.underlying120
  a76 := Tryz.isAgg120
  z76 := Tryz.sizeOf120
  v76 := Tryz.zeroValue120
  t85 := Tryz.underlying155
  a85 := Tryz.isAgg155
  z85 := Tryz.sizeOf155
  v85 := Tryz.zeroValue155
  t127 := Tryz.underlying180
  a127 := Tryz.isAgg180
  z127 := Tryz.sizeOf180
  v127 := Tryz.zeroValue180
  t143 := Tryz.underlying181
  a143 := Tryz.isAgg181
  z143 := Tryz.sizeOf181
  v143 := Tryz.zeroValue181
  t145 := Tryz.underlying183
  a145 := Tryz.isAgg183
  z145 := Tryz.sizeOf183
  v145 := Tryz.zeroValue183
  t167 := Tryz.underlying154
  a167 := Tryz.isAgg154
  z167 := Tryz.sizeOf154
  v167 := Tryz.zeroValue154
  t168 := Tryz.underlying157
  a168 := Tryz.isAgg157
  z168 := Tryz.sizeOf157
  v168 := Tryz.zeroValue157
  t171 := Tryz.underlying148
  a171 := Tryz.isAgg148
  z171 := Tryz.sizeOf148
  v171 := Tryz.zeroValue148
  t173 := Tryz.underlying152
  a173 := Tryz.isAgg152
  z173 := Tryz.sizeOf152
  v173 := Tryz.zeroValue152
  t175 := Tryz.underlying167
  a175 := Tryz.isAgg167
  z175 := Tryz.sizeOf167
  v175 := Tryz.zeroValue167
  t210 := Tryz.underlying171
  a210 := Tryz.isAgg171
  z210 := Tryz.sizeOf171
  v210 := Tryz.zeroValue171
  t212 := Tryz.underlying163
  a212 := Tryz.isAgg163
  z212 := Tryz.sizeOf163
  v212 := Tryz.zeroValue163
  t213 := Tryz.underlying165
  a213 := Tryz.isAgg165
  z213 := Tryz.sizeOf165
  t232 := Tryz.underlying184
  a232 := Tryz.isAgg184
  z232 := Tryz.sizeOf184
  v232 := Tryz.zeroValue184
  t233 := Tryz.underlying185
  a233 := Tryz.isAgg185
  z233 := Tryz.sizeOf185
  v233 := Tryz.zeroValue185
  g15 := by kernel_rfl
  g16 := by kernel_rfl
  g17 := by kernel_rfl
  g18 := by kernel_rfl
  g19 := by kernel_rfl }
end Go.Proofs

/-
  strings.Split, SplitN, Cut (over the one number of the library that no row lists), CutSuffix, strconv.Atoi at numerals.
-/
namespace Go.Proofs.YtcnohbiegjahkaaGreatDoor
set_option linter.unusedSimpArgs false
set_option linter.unusedVariables false
open Go.RowKit Go.Shelf

/-! ### strings.SplitN -/
/-! ### strings.Cut, CutSuffix -/
/-! ### strconv.Atoi -/
noncomputable def m_strconv_Atoi (s : List UInt8) : Option Int := if s.length ≤ 18 then Lib.atoi s else none
theorem spec_strconv_Atoi (s : List UInt8) : ∀ r, m_strconv_Atoi s = some r → PureSpec Tryz.prog 78 [.str s] (.tup [.int .i64 r, .raw .nilIface]) := by
  intro r hr
  unfold m_strconv_Atoi at hr
  split at hr
  · rename_i h
    refine ⟨by kernel_rfl, fun w M vs hM hv hgood => ?_⟩
    simp only [RepL, Rep] at hv
    obtain ⟨u, us, rfl, rfl, rfl⟩ := hv
    refine Calls.mono (Any.strconv_Atoi Tryz.lays172 ⟨s.toArray⟩ r (by simpa [ByteArray.size] using h) hr w) ?_
    rintro e w' ⟨rfl, t, rfl⟩
    refine ⟨_, rfl, ?_, ⟨rfl, rfl, rfl, by rw [Lib.bytesWorld_size]; omega, fun j hj => Lib.bytesWorld_at_old w _ t j hj⟩⟩
    unfold Rep
    refine ⟨_, rfl, ?_⟩
    simp [RepL, Rep]
  · cases hr
end Go.Proofs.YtcnohbiegjahkaaGreatDoor

/-
  Bodies of functions and what they compute, printed by programs of mine (wip/tool/gen.py, sc.py) out of the translation; the kernel holds each against the translation.
-/
namespace Go.Proofs.YtcnohbiegjahkaaGreatDoor
open Go.RowKit
set_option linter.unusedSimpArgs false
set_option linter.unusedVariables false
structure Tapi_Element where
  fRepeats : List (List (List UInt8))
  deriving DecidableEq
def rTapi_Element (x : Tapi_Element) : List DV := [.slice (List.map (rowL rowS) x.fRepeats)]
attribute [push_cast] rTapi_Element
structure Tapi_Segment where
  fTag : List UInt8
  fElements : List Tapi_Element
  deriving DecidableEq
def rTapi_Segment (x : Tapi_Segment) : List DV := [.str x.fTag, .slice (List.map rTapi_Element x.fElements)]
attribute [push_cast] rTapi_Segment
theorem fT_Tapi_Segment {d0 d1 : DV} {v0 : List UInt8} {v1 : List Tapi_Element} (h0 : d0 = .str v0) (h1 : d1 = .slice (List.map rTapi_Element v1)) : [d0, d1] = rTapi_Segment ⟨v0, v1⟩ := by unfold rTapi_Segment; simp only [h0, h1, List.cons_append, List.nil_append, List.append_assoc, List.append_nil]
/-- interchange/kit.IsTagPart -/
def sc_kit_IsTagPart : SC :=
  (.seq (.reg [.r 2 (.mv (.c (.d (.bool false))))])
  (.seq (.reg [.r 3 (.mv (.t 0)),
     .c 4 (.f 68) [.t 3, .c (.d (.str [65, 66, 67, 68, 69, 70, 71, 72, 73, 74, 75, 76, 77, 78, 79, 80, 81, 82, 83, 84, 85, 86, 87, 88, 89, 90, 48, 49, 50, 51, 52, 53, 54, 55, 56, 57]))],
     .r 5 (.bin .eql (.t 4) (.c (.d (.str [])))),
     .r 2 (.mv (.t 5))])
  .ret))
theorem fit_kit_IsTagPart : fits Tryz.prog 50 Tryz.f50 sc_kit_IsTagPart [.t 2] 1 = true := by kernel_rfl

def sc_kit_InBytes_L1 : SC :=
  (.seq (.reg [.r 11 (.bin .lss (.t 10) (.t 9))])
  (.seq (.cond (.t 11)
    .skip
    (.exit 0))
  (.seq (.block 1 (.seq (.reg [.r 12 (.mv (.t 10)),
       .r 7 (.mv (.t 12))])
    (.seq (.reg (.r 13 (.mv (.t 0)) :: .r 14 (.mv (.t 7)) :: .r 15 (.sidx (.t 13) (.t 14)) :: .r 16 (.mv (.t 1)) :: .r 17 (.bin .lss (.t 15) (.t 16)) :: .r 18 (.mv (.t 17)) :: gapp [19, 20, 21, 22, 23] 18 false (.r 19 (.mv (.t 0)) :: .r 20 (.mv (.t 7)) :: .r 21 (.sidx (.t 19) (.t 20)) :: .r 22 (.mv (.t 2)) :: .r 23 (.bin .gtr (.t 21) (.t 22)) :: []) (.r 24 (.pick (.t 18) (.c (.d (.bool true))) (.t 23)) :: [])))
    (.cond (.t 24)
      (.seq (.reg [.r 6 (.mv (.c (.d (.bool false))))])
      .ret)
      .skip))))
  (.reg [.r 25 (.bin .add (.t 10) (.c (.d (.int .i64 1)))),
     .r 10 (.mv (.t 25))]))))
def sc_kit_InBytes_B1 : SC := .block 0 (.loop sc_kit_InBytes_L1)
/-- interchange/kit.InBytes -/
def sc_kit_InBytes : SC :=
  (.seq (.reg [.r 6 (.mv (.c (.d (.bool false))))])
  (.seq (.seq (.reg [.r 8 (.mv (.t 0)),
     .r 9 (.lenT (.t 8)),
     .r 10 (.mv (.c (.d (.int .i64 0))))])
  sc_kit_InBytes_B1)
  (.seq (.reg [.r 6 (.mv (.c (.d (.bool true))))])
  .ret)))
theorem fit_kit_InBytes : fits Tryz.prog 84 Tryz.f84 sc_kit_InBytes [.t 6] 3 = true := by kernel_rfl

def sc_interchangeref2_beginsTag_L1 : SC :=
  (.seq (.seq (.reg [.r 5 (.mv (.t 3)),
     .r 6 (.mv (.t 0)),
     .r 7 (.lenT (.t 6)),
     .r 8 (.bin .lss (.t 5) (.t 7))])
  (.cond (.t 8)
    .skip
    (.exit 0)))
  (.seq (.block 1 (.seq (.reg (.r 11 (.mv (.t 0)) :: .r 12 (.mv (.t 3)) :: .r 13 (.sidx (.t 11) (.t 12)) :: .r 14 (.bin .geq (.t 13) (.c (.d (.int .u8 65)))) :: .r 15 (.mv (.t 14)) :: gapp [16, 17, 18, 19] 15 true (.r 16 (.mv (.t 0)) :: .r 17 (.mv (.t 3)) :: .r 18 (.sidx (.t 16) (.t 17)) :: .r 19 (.bin .leq (.t 18) (.c (.d (.int .u8 90)))) :: []) (.r 20 (.pick (.t 15) (.t 19) (.c (.d (.bool false)))) :: .r 4 (.mv (.t 20)) :: [])))
    (.seq (.reg (.r 21 (.mv (.t 4)) :: .r 22 (.not (.t 21)) :: .r 23 (.mv (.t 22)) :: gapp [24, 25, 26, 27, 28, 29, 30, 31, 32, 33, 34, 35, 36, 37] 23 true (.r 24 (.mv (.t 3)) :: .r 25 (.bin .eql (.t 24) (.c (.d (.int .i64 0)))) :: .r 26 (.mv (.t 25)) :: gapp [27, 28, 29, 30] 26 false (.r 27 (.mv (.t 0)) :: .r 28 (.mv (.t 3)) :: .r 29 (.sidx (.t 27) (.t 28)) :: .r 30 (.bin .lss (.t 29) (.c (.d (.int .u8 48)))) :: []) (.r 31 (.pick (.t 26) (.c (.d (.bool true))) (.t 30)) :: .r 32 (.mv (.t 31)) :: gapp [33, 34, 35, 36] 32 false (.r 33 (.mv (.t 0)) :: .r 34 (.mv (.t 3)) :: .r 35 (.sidx (.t 33) (.t 34)) :: .r 36 (.bin .gtr (.t 35) (.c (.d (.int .u8 57)))) :: []) (.r 37 (.pick (.t 32) (.c (.d (.bool true))) (.t 36)) :: []))) (.r 38 (.pick (.t 23) (.t 37) (.c (.d (.bool false)))) :: [])))
    (.cond (.t 38)
      (.seq (.reg [.r 2 (.mv (.c (.d (.bool false))))])
      .ret)
      .skip))))
  (.reg [.r 9 (.mv (.t 3)),
     .r 10 (.bin .add (.t 9) (.c (.d (.int .i64 1)))),
     .r 3 (.mv (.t 10))])))
def sc_interchangeref2_beginsTag_B1 : SC := .block 0 (.loop sc_interchangeref2_beginsTag_L1)
/-- interchange/interchangeref2.beginsTag -/
def sc_interchangeref2_beginsTag : SC :=
  (.seq (.reg [.r 2 (.mv (.c (.d (.bool false))))])
  (.seq (.seq (.reg [.r 3 (.mv (.c (.d (.int .i64 0))))])
  sc_interchangeref2_beginsTag_B1)
  (.seq (.reg [.r 39 (.mv (.t 0)),
     .r 40 (.lenT (.t 39)),
     .r 41 (.bin .leq (.t 40) (.c (.d (.int .i64 6)))),
     .r 2 (.mv (.t 41))])
  .ret)))
theorem fit_interchangeref2_beginsTag : fits Tryz.prog 81 Tryz.f81 sc_interchangeref2_beginsTag [.t 2] 1 = true := by kernel_rfl

def sc_interchangeref2_checkText_L1 : SC :=
  (.seq (.seq (.reg [.r 7 (.mv (.t 3)),
     .r 8 (.mv (.t 0)),
     .r 9 (.lenT (.t 8)),
     .r 10 (.bin .lss (.t 7) (.t 9))])
  (.cond (.t 10)
    .skip
    (.exit 0)))
  (.seq (.block 1 (.seq (.reg (.r 13 (.mv (.t 0)) :: .r 14 (.mv (.t 3)) :: .r 15 (.sidx (.t 13) (.t 14)) :: .r 16 (.bin .lss (.t 15) (.c (.d (.int .u8 32)))) :: .r 17 (.mv (.t 16)) :: gapp [18, 19, 20, 21] 17 false (.r 18 (.mv (.t 0)) :: .r 19 (.mv (.t 3)) :: .r 20 (.sidx (.t 18) (.t 19)) :: .r 21 (.bin .gtr (.t 20) (.c (.d (.int .u8 126)))) :: []) (.r 22 (.pick (.t 17) (.c (.d (.bool true))) (.t 21)) :: [])))
    (.cond (.t 22)
      (.seq (.reg [.r 2 (.mv (.c (.d (.int .i64 3))))])
      .ret)
      .skip)))
  (.reg [.r 11 (.mv (.t 3)),
     .r 12 (.bin .add (.t 11) (.c (.d (.int .i64 1)))),
     .r 3 (.mv (.t 12))])))
def sc_interchangeref2_checkText_B1 : SC := .block 0 (.loop sc_interchangeref2_checkText_L1)
/-- interchange/interchangeref2.checkText -/
def sc_interchangeref2_checkText : SC :=
  (.seq (.reg [.r 2 (.mv (.c (.d (.int .i64 0))))])
  (.seq (.seq (.reg [.r 4 (.mv (.t 0)),
     .r 5 (.lenT (.t 4)),
     .r 6 (.bin .gtr (.t 5) (.c (.d (.int .i64 1000))))])
  (.cond (.t 6)
    (.seq (.reg [.r 2 (.mv (.c (.d (.int .i64 2))))])
    .ret)
    .skip))
  (.seq (.seq (.reg [.r 3 (.mv (.c (.d (.int .i64 0))))])
  sc_interchangeref2_checkText_B1)
  (.seq (.reg [.r 2 (.mv (.c (.d (.int .i64 0))))])
  .ret))))
theorem fit_interchangeref2_checkText : fits Tryz.prog 82 Tryz.f82 sc_interchangeref2_checkText [.t 2] 1 = true := by kernel_rfl

set_option maxRecDepth 100000 in
set_option maxHeartbeats 40000000 in
noncomputable def sims_G1_0_0 : (∀ (x0 : List UInt8), {m : Option (Bool) // ∀ r, m = some r → PureSpec Tryz.prog 50 [.str x0] (.bool r)}) × (∀ (x0 : List UInt8) (x1 : UInt8) (x2 : UInt8), {m : Option (Bool) // ∀ r, m = some r → PureSpec Tryz.prog 84 [.str x0, .int .u8 (x1).toNat, .int .u8 (x2).toNat] (.bool r)}) × (∀ (x0 : List UInt8), {m : Option (Bool) // ∀ r, m = some r → PureSpec Tryz.prog 81 [.str x0] (.bool r)}) × (∀ (x0 : List UInt8), {m : Option (Int) // ∀ r, m = some r → PureSpec Tryz.prog 82 [.str x0] (.int .i64 r)}) := by
  refine ⟨?g0, ?g1, ?g2, ?g3⟩
  case' g0 => (intro x0; apply Subtype.mk; intro r hm; apply pure_walk Tryz.func50 fit_kit_IsTagPart; unfold sc_kit_IsTagPart)
  case' g1 => (intro x0 x1 x2; apply Subtype.mk; intro r hm; apply pure_walk Tryz.func84 fit_kit_InBytes; unfold sc_kit_InBytes)
  case' g2 => (intro x0; apply Subtype.mk; intro r hm; apply pure_walk Tryz.func81 fit_interchangeref2_beginsTag; unfold sc_interchangeref2_beginsTag)
  case' g3 => (intro x0; apply Subtype.mk; intro r hm; apply pure_walk Tryz.func82 fit_interchangeref2_checkText; unfold sc_interchangeref2_checkText)
  all_goals (repeat' (first | with_reducible refine W_seq ?_ | with_reducible refine W_reg ?_ | with_reducible refine W_block ?_ | with_reducible refine W_skip ?_ | with_reducible refine W_ret ?_ | with_reducible refine W_exit ?_ | with_reducible refine O_nil ?_ | with_reducible refine K_seq ?_ | with_reducible refine K_seqE ?_ | with_reducible refine K_seqR ?_ | with_reducible refine K_block ?_ | with_reducible refine K_blockR ?_ | ((with_reducible apply O_sidxr hm); (iterate 2 (simp only [push_cast, seval]; rfl)); intro e hm) | ((with_reducible apply O_r); (simp only [push_cast, seval]; rfl); (first | exact trivial)) | ((with_reducible apply O_and hm); (simp only [push_cast, seval]; rfl); rfl; intro v hm; rotate_left; intro v g hm) | ((with_reducible apply O_or hm); (simp only [push_cast, seval]; rfl); rfl; intro v hm; rotate_left; intro v g hm) | ((with_reducible apply O_cF hm); (simp only [push_cast, seval]; rfl); (first | apply spec_strings_Trim _ _); (any_goals ((repeat' (first | rfl)); done)); intro x hm) | ((with_reducible apply S_condB hm); (simp only [push_cast, seval]; rfl); intro hm; rotate_left; intro hm) | ((with_reducible apply K_endS hm); (focus (simp only [resOf, resL, RV.get, push_cast, seval]; rfl)); (focus ((repeat' (first | rfl)); done))) | ((with_reducible apply K_bool hm); (simp only [push_cast, seval]; rfl)) | ((with_reducible apply K_leave hm); intro r hm) | ((with_reducible apply K_leaveR hm); intro r hm) | ((apply S_loopY (b := 0) (X := sc_kit_InBytes_B1) (x := sc_kit_InBytes_L1) rfl (fun (c : SV × SV × SV × SV) (s : Int) => st [(0, c.1), (1, c.2.1), (2, c.2.2.1), (9, c.2.2.2), (10, .d (.int .i64 s))] []) (c := (_, _, _, _)) (s0 := _) hm); (focus (first | (dsimp only; done))); (with_reducible refine Then.mk ?_ ?_)) | ((apply S_loopY (b := 0) (X := sc_interchangeref2_beginsTag_B1) (x := sc_interchangeref2_beginsTag_L1) rfl (fun (c : SV) (s : Int) => st [(0, c), (3, .d (.int .i64 s))] []) (c := _) (s0 := _) hm); (focus (first | (dsimp only; done))); (with_reducible refine Then.mk ?_ ?_)) | ((apply S_loopY (b := 0) (X := sc_interchangeref2_checkText_B1) (x := sc_interchangeref2_checkText_L1) rfl (fun (c : SV) (s : Int) => st [(0, c), (3, .d (.int .i64 s))] []) (c := _) (s0 := _) hm); (focus (first | (dsimp only; done))); (with_reducible refine Then.mk ?_ ?_)) | ((apply K_next (s' := _) hm); (focus (first | (dsimp only; done)))) | ((apply K_brk (s' := _) hm); (focus (first | (dsimp only; done)))) | (((with_reducible apply K_brkR hm); intro r hm)) | (((with_reducible apply LoopB.of); (focus (first | (dsimp only; done))); (focus ((intro _; repeat' (first | with_reducible exact impC_end | with_reducible refine impC_seq ?_)))); (intro s o hm; first | unfold sc_kit_InBytes_L1 | unfold sc_interchangeref2_beginsTag_L1 | unfold sc_interchangeref2_checkText_L1); rotate_left; intro s hm)) | (((apply imp_stT; (repeat' (first | with_reducible exact keepT_nil | with_reducible exact keepC_nil | with_reducible apply keepT_cons | ((with_reducible apply svle_eq); (focus (first | (simp only [push_cast, seval]; rfl))); (focus ((repeat' (first | rfl)); done))))); done)))))
noncomputable def m_kit_IsTagPart (x0 : List UInt8) : Option (Bool) := (sims_G1_0_0.1 x0).1
theorem spec_kit_IsTagPart (x0 : List UInt8) : ∀ r, m_kit_IsTagPart x0 = some r → PureSpec Tryz.prog 50 [.str x0] (.bool r) := (sims_G1_0_0.1 x0).2
noncomputable def m_kit_InBytes (x0 : List UInt8) (x1 : UInt8) (x2 : UInt8) : Option (Bool) := (sims_G1_0_0.2.1 x0 x1 x2).1
theorem spec_kit_InBytes (x0 : List UInt8) (x1 : UInt8) (x2 : UInt8) : ∀ r, m_kit_InBytes x0 x1 x2 = some r → PureSpec Tryz.prog 84 [.str x0, .int .u8 (x1).toNat, .int .u8 (x2).toNat] (.bool r) := (sims_G1_0_0.2.1 x0 x1 x2).2
noncomputable def m_interchangeref2_beginsTag (x0 : List UInt8) : Option (Bool) := (sims_G1_0_0.2.2.1 x0).1
theorem spec_interchangeref2_beginsTag (x0 : List UInt8) : ∀ r, m_interchangeref2_beginsTag x0 = some r → PureSpec Tryz.prog 81 [.str x0] (.bool r) := (sims_G1_0_0.2.2.1 x0).2
noncomputable def m_interchangeref2_checkText (x0 : List UInt8) : Option (Int) := (sims_G1_0_0.2.2.2 x0).1
theorem spec_interchangeref2_checkText (x0 : List UInt8) : ∀ r, m_interchangeref2_checkText x0 = some r → PureSpec Tryz.prog 82 [.str x0] (.int .i64 r) := (sims_G1_0_0.2.2.2 x0).2

/-- interchange/kit.IsTag -/
def sc_kit_IsTag : SC :=
  (.seq (.reg [.r 2 (.mv (.c (.d (.bool false))))])
  (.seq (.reg (.r 3 (.mv (.t 0)) :: .r 4 (.lenT (.t 3)) :: .r 5 (.bin .geq (.t 4) (.c (.d (.int .i64 2)))) :: .r 6 (.mv (.t 5)) :: gapp [7, 8, 9] 6 true (.r 7 (.mv (.t 0)) :: .r 8 (.lenT (.t 7)) :: .r 9 (.bin .leq (.t 8) (.c (.d (.int .i64 6)))) :: []) (.r 10 (.pick (.t 6) (.t 9) (.c (.d (.bool false)))) :: .r 11 (.mv (.t 10)) :: gapp [12, 13, 14, 15] 11 true (.r 12 (.mv (.t 0)) :: .r 13 (.sidx (.t 12) (.c (.d (.int .i64 0)))) :: .c 14 (.f 49) [.c (.d (.str [65, 66, 67, 68, 69, 70, 71, 72, 73, 74, 75, 76, 77, 78, 79, 80, 81, 82, 83, 84, 85, 86, 87, 88, 89, 90])), .t 13] :: .r 15 (.bin .geq (.t 14) (.c (.d (.int .i64 0)))) :: []) (.r 16 (.pick (.t 11) (.t 15) (.c (.d (.bool false)))) :: .r 17 (.mv (.t 16)) :: gapp [18, 19] 17 true (.r 18 (.mv (.t 0)) :: .c 19 (.f 50) [.t 18] :: []) (.r 20 (.pick (.t 17) (.t 19) (.c (.d (.bool false)))) :: .r 2 (.mv (.t 20)) :: [])))))
  .ret))
theorem fit_kit_IsTag : fits Tryz.prog 21 Tryz.f21 sc_kit_IsTag [.t 2] 1 = true := by kernel_rfl

/-- interchange/kit.IsText -/
def sc_kit_IsText : SC :=
  (.seq (.reg [.r 2 (.mv (.c (.d (.bool false))))])
  (.seq (.reg (.r 3 (.mv (.t 0)) :: .r 4 (.lenT (.t 3)) :: .r 5 (.bin .leq (.t 4) (.c (.d (.int .i64 1000)))) :: .r 6 (.mv (.t 5)) :: gapp [7, 8] 6 true (.r 7 (.mv (.t 0)) :: .c 8 (.f 84) [.t 7, .c (.d (.int .u8 32)), .c (.d (.int .u8 126))] :: []) (.r 9 (.pick (.t 6) (.t 8) (.c (.d (.bool false)))) :: .r 2 (.mv (.t 9)) :: [])))
  .ret))
theorem fit_kit_IsText : fits Tryz.prog 75 Tryz.f75 sc_kit_IsText [.t 2] 1 = true := by kernel_rfl

/-- interchange/interchangeref2.IsTag -/
def sc_interchangeref2_IsTag : SC :=
  (.seq (.reg [.r 2 (.mv (.c (.d (.bool false))))])
  (.seq (.reg (.r 3 (.mv (.t 0)) :: .r 4 (.lenT (.t 3)) :: .r 5 (.bin .geq (.t 4) (.c (.d (.int .i64 2)))) :: .r 6 (.mv (.t 5)) :: gapp [7, 8] 6 true (.r 7 (.mv (.t 0)) :: .c 8 (.f 81) [.t 7] :: []) (.r 9 (.pick (.t 6) (.t 8) (.c (.d (.bool false)))) :: .r 2 (.mv (.t 9)) :: [])))
  .ret))
theorem fit_interchangeref2_IsTag : fits Tryz.prog 58 Tryz.f58 sc_interchangeref2_IsTag [.t 2] 1 = true := by kernel_rfl

def sc_interchangeref2_checkElement_L1 : SC :=
  (.seq (.seq (.reg [.r 35 (.mv (.t 4)),
     .r 36 (.fld 0 (.t 1)),
     .o 37 (.ld1 (.t 36)),
     .r 38 (.mv (.t 3)),
     .r 39 (.idx 1 (.t 37) (.t 38)),
     .o 40 (.ld1 (.t 39)),
     .r 41 (.len (.t 40)),
     .r 42 (.bin .lss (.t 35) (.t 41))])
  (.cond (.t 42)
    .skip
    (.exit 2)))
  (.seq (.block 3 (.seq (.reg [.r 45 (.fld 0 (.t 1)),
       .o 46 (.ld1 (.t 45)),
       .r 47 (.mv (.t 3)),
       .r 48 (.idx 1 (.t 46) (.t 47)),
       .o 49 (.ld1 (.t 48)),
       .r 50 (.mv (.t 4)),
       .r 51 (.idx 1 (.t 49) (.t 50)),
       .o 52 (.ld1 (.t 51)),
       .c 53 (.f 82) [.t 52],
       .r 5 (.mv (.t 53))])
    (.seq (.reg [.r 54 (.mv (.t 5)),
       .r 55 (.bin .neq (.t 54) (.c (.d (.int .i64 0))))])
    (.cond (.t 55)
      (.seq (.reg [.r 56 (.mv (.t 5)),
         .r 2 (.mv (.t 56))])
      .ret)
      .skip))))
  (.reg [.r 43 (.mv (.t 4)),
     .r 44 (.bin .add (.t 43) (.c (.d (.int .i64 1)))),
     .r 4 (.mv (.t 44))])))
def sc_interchangeref2_checkElement_B1 : SC := .block 2 (.loop sc_interchangeref2_checkElement_L1)
def sc_interchangeref2_checkElement_L2 : SC :=
  (.seq (.seq (.reg [.r 14 (.mv (.t 3)),
     .r 15 (.fld 0 (.t 1)),
     .o 16 (.ld1 (.t 15)),
     .r 17 (.len (.t 16)),
     .r 18 (.bin .lss (.t 14) (.t 17))])
  (.cond (.t 18)
    .skip
    (.exit 0)))
  (.seq (.block 1 (.seq (.seq (.reg [.r 21 (.fld 0 (.t 1)),
       .o 22 (.ld1 (.t 21)),
       .r 23 (.mv (.t 3)),
       .r 24 (.idx 1 (.t 22) (.t 23)),
       .o 25 (.ld1 (.t 24)),
       .r 26 (.len (.t 25)),
       .r 27 (.bin .eql (.t 26) (.c (.d (.int .i64 0))))])
    (.cond (.t 27)
      (.seq (.reg [.r 2 (.mv (.c (.d (.int .i64 9))))])
      .ret)
      .skip))
    (.seq (.seq (.reg [.r 28 (.fld 0 (.t 1)),
       .o 29 (.ld1 (.t 28)),
       .r 30 (.mv (.t 3)),
       .r 31 (.idx 1 (.t 29) (.t 30)),
       .o 32 (.ld1 (.t 31)),
       .r 33 (.len (.t 32)),
       .r 34 (.bin .gtr (.t 33) (.c (.d (.int .i64 20))))])
    (.cond (.t 34)
      (.seq (.reg [.r 2 (.mv (.c (.d (.int .i64 2))))])
      .ret)
      .skip))
    (.seq (.reg [.r 4 (.mv (.c (.d (.int .i64 0))))])
    sc_interchangeref2_checkElement_B1))))
  (.reg [.r 19 (.mv (.t 3)),
     .r 20 (.bin .add (.t 19) (.c (.d (.int .i64 1)))),
     .r 3 (.mv (.t 20))])))
def sc_interchangeref2_checkElement_B2 : SC := .block 0 (.loop sc_interchangeref2_checkElement_L2)
/-- interchange/interchangeref2.checkElement -/
def sc_interchangeref2_checkElement : SC :=
  (.seq (.reg [.r 1 (.boxI (.t 0)),
     .r 2 (.mv (.c (.d (.int .i64 0))))])
  (.seq (.seq (.reg [.r 6 (.fld 0 (.t 1)),
     .o 7 (.ld1 (.t 6)),
     .r 8 (.len (.t 7)),
     .r 9 (.bin .eql (.t 8) (.c (.d (.int .i64 0))))])
  (.cond (.t 9)
    (.seq (.reg [.r 2 (.mv (.c (.d (.int .i64 9))))])
    .ret)
    .skip))
  (.seq (.seq (.reg [.r 10 (.fld 0 (.t 1)),
     .o 11 (.ld1 (.t 10)),
     .r 12 (.len (.t 11)),
     .r 13 (.bin .gtr (.t 12) (.c (.d (.int .i64 20))))])
  (.cond (.t 13)
    (.seq (.reg [.r 2 (.mv (.c (.d (.int .i64 2))))])
    .ret)
    .skip))
  (.seq (.seq (.reg [.r 3 (.mv (.c (.d (.int .i64 0))))])
  sc_interchangeref2_checkElement_B2)
  (.seq (.reg [.r 2 (.mv (.c (.d (.int .i64 0))))])
  .ret)))))
theorem fit_interchangeref2_checkElement : fits Tryz.prog 59 Tryz.f59 sc_interchangeref2_checkElement [.t 2] 1 = true := by kernel_rfl

set_option maxRecDepth 100000 in
set_option maxHeartbeats 40000000 in
noncomputable def sims_G1_1_0 : (∀ (x0 : List UInt8), {m : Option (Bool) // ∀ r, m = some r → PureSpec Tryz.prog 21 [.str x0] (.bool r)}) × (∀ (x0 : List UInt8), {m : Option (Bool) // ∀ r, m = some r → PureSpec Tryz.prog 75 [.str x0] (.bool r)}) × (∀ (x0 : List UInt8), {m : Option (Bool) // ∀ r, m = some r → PureSpec Tryz.prog 58 [.str x0] (.bool r)}) × (∀ (x0 : Tapi_Element), {m : Option (Int) // ∀ r, m = some r → PureSpec Tryz.prog 59 [.agg (rTapi_Element x0)] (.int .i64 r)}) := by
  refine ⟨?g0, ?g1, ?g2, ?g3⟩
  case' g0 => (intro x0; apply Subtype.mk; intro r hm; apply pure_walk Tryz.func21 fit_kit_IsTag; unfold sc_kit_IsTag)
  case' g1 => (intro x0; apply Subtype.mk; intro r hm; apply pure_walk Tryz.func75 fit_kit_IsText; unfold sc_kit_IsText)
  case' g2 => (intro x0; apply Subtype.mk; intro r hm; apply pure_walk Tryz.func58 fit_interchangeref2_IsTag; unfold sc_interchangeref2_IsTag)
  case' g3 => (intro x0; apply Subtype.mk; intro r hm; apply pure_walk Tryz.func59 fit_interchangeref2_checkElement; unfold sc_interchangeref2_checkElement)
  all_goals (repeat' (first | with_reducible refine W_seq ?_ | with_reducible refine W_reg ?_ | with_reducible refine W_block ?_ | with_reducible refine W_skip ?_ | with_reducible refine W_ret ?_ | with_reducible refine W_exit ?_ | with_reducible refine O_nil ?_ | with_reducible refine K_seq ?_ | with_reducible refine K_seqE ?_ | with_reducible refine K_seqR ?_ | with_reducible refine K_block ?_ | with_reducible refine K_blockR ?_ | with_reducible refine O_o2r ?_ | ((with_reducible apply O_idxr hm); (iterate 2 (simp only [push_cast, seval]; rfl)); (intro _; rfl); intro e hm) | ((with_reducible apply O_sidxr hm); (iterate 2 (simp only [push_cast, seval]; rfl)); intro e hm) | ((with_reducible apply O_r); (simp only [push_cast, seval]; rfl); (first | exact trivial)) | ((with_reducible apply O_and hm); (simp only [push_cast, seval]; rfl); rfl; intro v hm; rotate_left; intro v g hm) | ((with_reducible apply O_cF hm); (simp only [push_cast, seval]; rfl); (first | apply spec_strings_IndexByte _ _ | apply spec_kit_IsTagPart _ | apply spec_kit_InBytes _ _ _ | apply spec_interchangeref2_beginsTag _ | apply spec_interchangeref2_checkText _); (any_goals ((repeat' (first | rfl | (with_reducible first | apply f_cons) | (with_reducible apply f_byte; decide))); done)); intro x hm) | ((with_reducible apply S_condB hm); (simp only [push_cast, seval]; rfl); intro hm; rotate_left; intro hm) | ((with_reducible apply K_endS hm); (focus (simp only [resOf, resL, RV.get, push_cast, seval]; rfl)); (focus ((repeat' (first | rfl)); done))) | ((with_reducible apply K_bool hm); (simp only [push_cast, seval]; rfl)) | ((with_reducible apply K_leave hm); intro r hm) | ((with_reducible apply K_leaveR hm); intro r hm) | ((apply S_loopY (b := 2) (X := sc_interchangeref2_checkElement_B1) (x := sc_interchangeref2_checkElement_L1) rfl (fun (c : SV × SV) (s : Int) => st [(1, c.1), (3, c.2), (4, .d (.int .i64 s))] []) (c := (_, _)) (s0 := _) hm); (focus (first | (dsimp only; done))); (with_reducible refine Then.mk ?_ ?_)) | ((apply S_loopY (b := 0) (X := sc_interchangeref2_checkElement_B2) (x := sc_interchangeref2_checkElement_L2) rfl (fun (c : SV) (s : Int) => st [(1, c), (3, .d (.int .i64 s))] []) (c := _) (s0 := _) hm); (focus (first | (dsimp only; done))); (with_reducible refine Then.mk ?_ ?_)) | ((apply K_next (s' := _) hm); (focus (first | (dsimp only; done)))) | ((apply K_brk (s' := _) hm); (focus (first | (dsimp only; done)))) | (((with_reducible apply K_brkR hm); intro r hm)) | (((with_reducible apply LoopB.of); (focus (first | (dsimp only; done))); (focus ((intro _; repeat' (first | with_reducible exact impC_end | with_reducible refine impC_seq ?_ | with_reducible refine impC_block ?_ | ((with_reducible refine impC_rnd ?_); intro _) | ((with_reducible refine impC_brk ?_); intro _))))); (intro s o hm; first | unfold sc_interchangeref2_checkElement_L1 | unfold sc_interchangeref2_checkElement_L2); rotate_left; intro s hm)) | (((apply imp_stT; (repeat' (first | with_reducible exact keepT_nil | with_reducible exact keepC_nil | with_reducible apply keepT_cons | ((with_reducible apply svle_eq); (focus (first | (simp only [push_cast, seval]; rfl))); (focus ((repeat' (first | rfl)); done))))); done)))))
noncomputable def m_kit_IsTag (x0 : List UInt8) : Option (Bool) := (sims_G1_1_0.1 x0).1
theorem spec_kit_IsTag (x0 : List UInt8) : ∀ r, m_kit_IsTag x0 = some r → PureSpec Tryz.prog 21 [.str x0] (.bool r) := (sims_G1_1_0.1 x0).2
noncomputable def m_kit_IsText (x0 : List UInt8) : Option (Bool) := (sims_G1_1_0.2.1 x0).1
theorem spec_kit_IsText (x0 : List UInt8) : ∀ r, m_kit_IsText x0 = some r → PureSpec Tryz.prog 75 [.str x0] (.bool r) := (sims_G1_1_0.2.1 x0).2
noncomputable def m_interchangeref2_IsTag (x0 : List UInt8) : Option (Bool) := (sims_G1_1_0.2.2.1 x0).1
theorem spec_interchangeref2_IsTag (x0 : List UInt8) : ∀ r, m_interchangeref2_IsTag x0 = some r → PureSpec Tryz.prog 58 [.str x0] (.bool r) := (sims_G1_1_0.2.2.1 x0).2
noncomputable def m_interchangeref2_checkElement (x0 : Tapi_Element) : Option (Int) := (sims_G1_1_0.2.2.2 x0).1
theorem spec_interchangeref2_checkElement (x0 : Tapi_Element) : ∀ r, m_interchangeref2_checkElement x0 = some r → PureSpec Tryz.prog 59 [.agg (rTapi_Element x0)] (.int .i64 r) := (sims_G1_1_0.2.2.2 x0).2

/-- interchange/wire.textFault -/
def sc_wire_textFault : SC :=
  (.seq (.reg [.r 2 (.mv (.c (.d (.int .i64 0))))])
  (.seq (.seq (.reg [.r 3 (.mv (.t 0)),
     .r 4 (.lenT (.t 3)),
     .r 5 (.bin .gtr (.t 4) (.c (.d (.int .i64 1000))))])
  (.cond (.t 5)
    (.seq (.reg [.r 2 (.mv (.c (.d (.int .i64 2))))])
    .ret)
    .skip))
  (.seq (.seq (.reg [.r 6 (.mv (.t 0)),
     .c 7 (.f 75) [.t 6],
     .r 8 (.not (.t 7))])
  (.cond (.t 8)
    (.seq (.reg [.r 2 (.mv (.c (.d (.int .i64 3))))])
    .ret)
    .skip))
  (.seq (.reg [.r 2 (.mv (.c (.d (.int .i64 0))))])
  .ret))))
theorem fit_wire_textFault : fits Tryz.prog 51 Tryz.f51 sc_wire_textFault [.t 2] 1 = true := by kernel_rfl

def sc_interchangeref2_CheckOne_L1 : SC :=
  (.seq (.seq (.reg [.r 13 (.mv (.t 3)),
     .r 14 (.fld 1 (.t 1)),
     .o 15 (.ld1 (.t 14)),
     .r 16 (.len (.t 15)),
     .r 17 (.bin .lss (.t 13) (.t 16))])
  (.cond (.t 17)
    .skip
    (.exit 0)))
  (.seq (.block 1 (.seq (.reg [.r 20 (.fld 1 (.t 1)),
       .o 21 (.ld1 (.t 20)),
       .r 22 (.mv (.t 3)),
       .r 23 (.idx 1 (.t 21) (.t 22)),
       .o 24 (.ldA 1 (.t 23)),
       .c 25 (.f 59) [.t 24],
       .r 4 (.mv (.t 25))])
    (.seq (.reg [.r 26 (.mv (.t 4)),
       .r 27 (.bin .neq (.t 26) (.c (.d (.int .i64 0))))])
    (.cond (.t 27)
      (.seq (.reg [.r 28 (.mv (.t 4)),
         .r 2 (.mv (.t 28))])
      .ret)
      .skip))))
  (.reg [.r 18 (.mv (.t 3)),
     .r 19 (.bin .add (.t 18) (.c (.d (.int .i64 1)))),
     .r 3 (.mv (.t 19))])))
def sc_interchangeref2_CheckOne_B1 : SC := .block 0 (.loop sc_interchangeref2_CheckOne_L1)
/-- interchange/interchangeref2.CheckOne -/
def sc_interchangeref2_CheckOne : SC :=
  (.seq (.reg [.r 1 (.boxI (.t 0)),
     .r 2 (.mv (.c (.d (.int .i64 0))))])
  (.seq (.seq (.reg [.r 5 (.fld 0 (.t 1)),
     .o 6 (.ld1 (.t 5)),
     .c 7 (.f 58) [.t 6],
     .r 8 (.not (.t 7))])
  (.cond (.t 8)
    (.seq (.reg [.r 2 (.mv (.c (.d (.int .i64 5))))])
    .ret)
    .skip))
  (.seq (.seq (.reg [.r 9 (.fld 1 (.t 1)),
     .o 10 (.ld1 (.t 9)),
     .r 11 (.len (.t 10)),
     .r 12 (.bin .gtr (.t 11) (.c (.d (.int .i64 50))))])
  (.cond (.t 12)
    (.seq (.reg [.r 2 (.mv (.c (.d (.int .i64 2))))])
    .ret)
    .skip))
  (.seq (.seq (.reg [.r 3 (.mv (.c (.d (.int .i64 0))))])
  sc_interchangeref2_CheckOne_B1)
  (.seq (.reg [.r 2 (.mv (.c (.d (.int .i64 0))))])
  .ret)))))
theorem fit_interchangeref2_CheckOne : fits Tryz.prog 31 Tryz.f31 sc_interchangeref2_CheckOne [.t 2] 1 = true := by kernel_rfl

set_option maxRecDepth 100000 in
set_option maxHeartbeats 40000000 in
noncomputable def sims_G1_2_0 : (∀ (x0 : List UInt8), {m : Option (Int) // ∀ r, m = some r → PureSpec Tryz.prog 51 [.str x0] (.int .i64 r)}) × (∀ (x0 : Tapi_Segment), {m : Option (Int) // ∀ r, m = some r → PureSpec Tryz.prog 31 [.agg (rTapi_Segment x0)] (.int .i64 r)}) := by
  refine ⟨?g0, ?g1⟩
  case' g0 => (intro x0; apply Subtype.mk; intro r hm; apply pure_walk Tryz.func51 fit_wire_textFault; unfold sc_wire_textFault)
  case' g1 => (intro x0; apply Subtype.mk; intro r hm; apply pure_walk Tryz.func31 fit_interchangeref2_CheckOne; unfold sc_interchangeref2_CheckOne)
  all_goals (repeat' (first | with_reducible refine W_seq ?_ | with_reducible refine W_reg ?_ | with_reducible refine W_block ?_ | with_reducible refine W_skip ?_ | with_reducible refine W_ret ?_ | with_reducible refine W_exit ?_ | with_reducible refine O_nil ?_ | with_reducible refine K_seq ?_ | with_reducible refine K_seqE ?_ | with_reducible refine K_seqR ?_ | with_reducible refine K_block ?_ | with_reducible refine K_blockR ?_ | with_reducible refine O_o2r ?_ | ((with_reducible apply O_idxr hm); (iterate 2 (simp only [push_cast, seval]; rfl)); (intro _; rfl); intro e hm) | ((with_reducible apply O_r); (simp only [push_cast, seval]; rfl); (first | exact trivial)) | ((with_reducible apply O_cF hm); (simp only [push_cast, seval]; rfl); (first | apply spec_kit_IsText _ | apply spec_interchangeref2_IsTag _ | apply spec_interchangeref2_checkElement _); (any_goals ((repeat' (first | rfl)); done)); intro x hm) | ((with_reducible apply S_condB hm); (simp only [push_cast, seval]; rfl); intro hm; rotate_left; intro hm) | ((with_reducible apply K_endS hm); (focus (simp only [resOf, resL, RV.get, push_cast, seval]; rfl)); (focus ((repeat' (first | rfl)); done))) | ((with_reducible apply K_leave hm); intro r hm) | ((with_reducible apply K_leaveR hm); intro r hm) | ((apply S_loopY (b := 0) (X := sc_interchangeref2_CheckOne_B1) (x := sc_interchangeref2_CheckOne_L1) rfl (fun (c : SV) (s : Int) => st [(1, c), (3, .d (.int .i64 s))] []) (c := _) (s0 := _) hm); (focus (first | (dsimp only; done))); (with_reducible refine Then.mk ?_ ?_)) | ((apply K_next (s' := _) hm); (focus (first | (dsimp only; done)))) | ((apply K_brk (s' := _) hm); (focus (first | (dsimp only; done)))) | (((with_reducible apply K_brkR hm); intro r hm)) | (((with_reducible apply LoopB.of); (focus (first | (dsimp only; done))); (focus ((intro _; repeat' (first | with_reducible exact impC_end | with_reducible refine impC_seq ?_)))); (intro s o hm; first | unfold sc_interchangeref2_CheckOne_L1); rotate_left; intro s hm)) | (((apply imp_stT; (repeat' (first | with_reducible exact keepT_nil | with_reducible exact keepC_nil | with_reducible apply keepT_cons | ((with_reducible apply svle_eq); (focus (first | (simp only [push_cast, seval]; rfl))); (focus ((repeat' (first | rfl)); done))))); done)))))
noncomputable def m_wire_textFault (x0 : List UInt8) : Option (Int) := (sims_G1_2_0.1 x0).1
theorem spec_wire_textFault (x0 : List UInt8) : ∀ r, m_wire_textFault x0 = some r → PureSpec Tryz.prog 51 [.str x0] (.int .i64 r) := (sims_G1_2_0.1 x0).2
noncomputable def m_interchangeref2_CheckOne (x0 : Tapi_Segment) : Option (Int) := (sims_G1_2_0.2 x0).1
theorem spec_interchangeref2_CheckOne (x0 : Tapi_Segment) : ∀ r, m_interchangeref2_CheckOne x0 = some r → PureSpec Tryz.prog 31 [.agg (rTapi_Segment x0)] (.int .i64 r) := (sims_G1_2_0.2 x0).2

def sc_wire_elementFault_L1 : SC :=
  (.seq (.reg [.r 32 (.bin .lss (.t 31) (.t 30))])
  (.seq (.cond (.t 32)
    .skip
    (.exit 2))
  (.seq (.block 3 (.seq (.reg [.r 33 (.idx 1 (.t 29) (.t 31)),
       .o 34 (.ld1 (.t 33)),
       .r 6 (.mv (.t 34))])
    (.seq (.reg [.r 35 (.mv (.t 6)),
       .c 36 (.f 51) [.t 35],
       .r 7 (.mv (.t 36))])
    (.seq (.reg [.r 37 (.mv (.t 7)),
       .r 38 (.bin .neq (.t 37) (.c (.d (.int .i64 0))))])
    (.cond (.t 38)
      (.seq (.reg [.r 39 (.mv (.t 7)),
         .r 2 (.mv (.t 39))])
      .ret)
      .skip)))))
  (.reg [.r 40 (.bin .add (.t 31) (.c (.d (.int .i64 1)))),
     .r 31 (.mv (.t 40))]))))
def sc_wire_elementFault_B1 : SC := .block 2 (.loop sc_wire_elementFault_L1)
def sc_wire_elementFault_L2 : SC :=
  (.seq (.reg [.r 20 (.bin .lss (.t 19) (.t 18))])
  (.seq (.cond (.t 20)
    .skip
    (.exit 0))
  (.seq (.block 1 (.seq (.reg [.r 21 (.idx 1 (.t 17) (.t 19)),
       .o 22 (.ld1 (.t 21)),
       .r 4 (.mv (.t 22))])
    (.seq (.seq (.reg [.r 23 (.mv (.t 4)),
       .r 24 (.len (.t 23)),
       .r 25 (.bin .eql (.t 24) (.c (.d (.int .i64 0))))])
    (.cond (.t 25)
      (.seq (.reg [.r 2 (.mv (.c (.d (.int .i64 9))))])
      .ret)
      .skip))
    (.seq (.seq (.reg [.r 26 (.mv (.t 4)),
       .r 27 (.len (.t 26)),
       .r 28 (.bin .gtr (.t 27) (.c (.d (.int .i64 20))))])
    (.cond (.t 28)
      (.seq (.reg [.r 2 (.mv (.c (.d (.int .i64 2))))])
      .ret)
      .skip))
    (.seq (.reg [.r 29 (.mv (.t 4)),
       .r 30 (.len (.t 29)),
       .r 31 (.mv (.c (.d (.int .i64 0))))])
    sc_wire_elementFault_B1)))))
  (.reg [.r 41 (.bin .add (.t 19) (.c (.d (.int .i64 1)))),
     .r 19 (.mv (.t 41))]))))
def sc_wire_elementFault_B2 : SC := .block 0 (.loop sc_wire_elementFault_L2)
/-- interchange/wire.elementFault -/
def sc_wire_elementFault : SC :=
  (.seq (.reg [.r 1 (.boxI (.t 0)),
     .r 2 (.mv (.c (.d (.int .i64 0))))])
  (.seq (.seq (.reg [.r 8 (.fld 0 (.t 1)),
     .o 9 (.ld1 (.t 8)),
     .r 10 (.len (.t 9)),
     .r 11 (.bin .eql (.t 10) (.c (.d (.int .i64 0))))])
  (.cond (.t 11)
    (.seq (.reg [.r 2 (.mv (.c (.d (.int .i64 9))))])
    .ret)
    .skip))
  (.seq (.seq (.reg [.r 12 (.fld 0 (.t 1)),
     .o 13 (.ld1 (.t 12)),
     .r 14 (.len (.t 13)),
     .r 15 (.bin .gtr (.t 14) (.c (.d (.int .i64 20))))])
  (.cond (.t 15)
    (.seq (.reg [.r 2 (.mv (.c (.d (.int .i64 2))))])
    .ret)
    .skip))
  (.seq (.seq (.reg [.r 16 (.fld 0 (.t 1)),
     .o 17 (.ld1 (.t 16)),
     .r 18 (.len (.t 17)),
     .r 19 (.mv (.c (.d (.int .i64 0))))])
  sc_wire_elementFault_B2)
  (.seq (.reg [.r 2 (.mv (.c (.d (.int .i64 0))))])
  .ret)))))
theorem fit_wire_elementFault : fits Tryz.prog 22 Tryz.f22 sc_wire_elementFault [.t 2] 1 = true := by kernel_rfl

def sc_interchangeref2_CheckSegments_L1 : SC :=
  (.seq (.seq (.reg [.r 8 (.mv (.t 3)),
     .r 9 (.mv (.t 0)),
     .r 10 (.len (.t 9)),
     .r 11 (.bin .lss (.t 8) (.t 10))])
  (.cond (.t 11)
    .skip
    (.exit 0)))
  (.seq (.block 1 (.seq (.reg [.r 14 (.mv (.t 0)),
       .r 15 (.mv (.t 3)),
       .r 16 (.idx 2 (.t 14) (.t 15)),
       .o 17 (.ldA 2 (.t 16)),
       .c 18 (.f 31) [.t 17],
       .r 4 (.mv (.t 18))])
    (.seq (.reg [.r 19 (.mv (.t 4)),
       .r 20 (.bin .neq (.t 19) (.c (.d (.int .i64 0))))])
    (.cond (.t 20)
      (.seq (.reg [.r 21 (.mv (.t 4)),
         .r 2 (.mv (.t 21))])
      .ret)
      .skip))))
  (.reg [.r 12 (.mv (.t 3)),
     .r 13 (.bin .add (.t 12) (.c (.d (.int .i64 1)))),
     .r 3 (.mv (.t 13))])))
def sc_interchangeref2_CheckSegments_B1 : SC := .block 0 (.loop sc_interchangeref2_CheckSegments_L1)
/-- interchange/interchangeref2.CheckSegments -/
def sc_interchangeref2_CheckSegments : SC :=
  (.seq (.reg [.r 2 (.mv (.c (.d (.int .i64 0))))])
  (.seq (.seq (.reg [.r 5 (.mv (.t 0)),
     .r 6 (.len (.t 5)),
     .r 7 (.bin .gtr (.t 6) (.c (.d (.int .i64 2000))))])
  (.cond (.t 7)
    (.seq (.reg [.r 2 (.mv (.c (.d (.int .i64 2))))])
    .ret)
    .skip))
  (.seq (.seq (.reg [.r 3 (.mv (.c (.d (.int .i64 0))))])
  sc_interchangeref2_CheckSegments_B1)
  (.seq (.reg [.r 2 (.mv (.c (.d (.int .i64 0))))])
  .ret))))
theorem fit_interchangeref2_CheckSegments : fits Tryz.prog 15 Tryz.f15 sc_interchangeref2_CheckSegments [.t 2] 1 = true := by kernel_rfl

set_option maxRecDepth 100000 in
set_option maxHeartbeats 40000000 in
noncomputable def sims_G1_3_0 : (∀ (x0 : Tapi_Element), {m : Option (Int) // ∀ r, m = some r → PureSpec Tryz.prog 22 [.agg (rTapi_Element x0)] (.int .i64 r)}) × (∀ (x0 : List Tapi_Segment), {m : Option (Int) // ∀ r, m = some r → PureSpec Tryz.prog 15 [.slice (List.map rTapi_Segment x0)] (.int .i64 r)}) := by
  refine ⟨?g0, ?g1⟩
  case' g0 => (intro x0; apply Subtype.mk; intro r hm; apply pure_walk Tryz.func22 fit_wire_elementFault; unfold sc_wire_elementFault)
  case' g1 => (intro x0; apply Subtype.mk; intro r hm; apply pure_walk Tryz.func15 fit_interchangeref2_CheckSegments; unfold sc_interchangeref2_CheckSegments)
  all_goals (repeat' (first | with_reducible refine W_seq ?_ | with_reducible refine W_reg ?_ | with_reducible refine W_block ?_ | with_reducible refine W_skip ?_ | with_reducible refine W_ret ?_ | with_reducible refine W_exit ?_ | with_reducible refine O_nil ?_ | with_reducible refine K_seq ?_ | with_reducible refine K_seqE ?_ | with_reducible refine K_seqR ?_ | with_reducible refine K_block ?_ | with_reducible refine K_blockR ?_ | with_reducible refine O_o2r ?_ | ((with_reducible apply O_idxr hm); (iterate 2 (simp only [push_cast, seval]; rfl)); (intro _; rfl); intro e hm) | ((with_reducible apply O_r); (simp only [push_cast, seval]; rfl); (first | exact trivial)) | ((with_reducible apply O_cF hm); (simp only [push_cast, seval]; rfl); (first | apply spec_wire_textFault _ | apply spec_interchangeref2_CheckOne _); (any_goals ((repeat' (first | rfl)); done)); intro x hm) | ((with_reducible apply S_condB hm); (simp only [push_cast, seval]; rfl); intro hm; rotate_left; intro hm) | ((with_reducible apply K_endS hm); (focus (simp only [resOf, resL, RV.get, push_cast, seval]; rfl)); (focus ((repeat' (first | rfl)); done))) | ((with_reducible apply K_leave hm); intro r hm) | ((with_reducible apply K_leaveR hm); intro r hm) | ((apply S_loopY (b := 2) (X := sc_wire_elementFault_B1) (x := sc_wire_elementFault_L1) rfl (fun (c : SV × SV × SV × SV × SV) (s : Int) => st [(17, c.1), (18, c.2.1), (19, c.2.2.1), (29, c.2.2.2.1), (30, c.2.2.2.2), (31, .d (.int .i64 s))] []) (c := (_, _, _, _, _)) (s0 := _) hm); (focus (first | (dsimp only; done))); (with_reducible refine Then.mk ?_ ?_)) | ((apply S_loopY (b := 0) (X := sc_wire_elementFault_B2) (x := sc_wire_elementFault_L2) rfl (fun (c : SV × SV) (s : Int) => st [(17, c.1), (18, c.2), (19, .d (.int .i64 s))] []) (c := (_, _)) (s0 := _) hm); (focus (first | (dsimp only; done))); (with_reducible refine Then.mk ?_ ?_)) | ((apply S_loopY (b := 0) (X := sc_interchangeref2_CheckSegments_B1) (x := sc_interchangeref2_CheckSegments_L1) rfl (fun (c : SV) (s : Int) => st [(0, c), (3, .d (.int .i64 s))] []) (c := _) (s0 := _) hm); (focus (first | (dsimp only; done))); (with_reducible refine Then.mk ?_ ?_)) | ((apply K_next (s' := _) hm); (focus (first | (dsimp only; done)))) | ((apply K_brk (s' := _) hm); (focus (first | (dsimp only; done)))) | (((with_reducible apply K_brkR hm); intro r hm)) | (((with_reducible apply LoopB.of); (focus (first | (dsimp only; done))); (focus ((intro _; repeat' (first | with_reducible exact impC_end | with_reducible refine impC_seq ?_ | with_reducible refine impC_block ?_ | ((with_reducible refine impC_rnd ?_); intro _) | ((with_reducible refine impC_brk ?_); intro _))))); (intro s o hm; first | unfold sc_wire_elementFault_L1 | unfold sc_wire_elementFault_L2 | unfold sc_interchangeref2_CheckSegments_L1); rotate_left; intro s hm)) | (((apply imp_stT; (repeat' (first | with_reducible exact keepT_nil | with_reducible exact keepC_nil | with_reducible apply keepT_cons | ((with_reducible apply svle_eq); (focus (first | (simp only [push_cast, seval]; rfl))); (focus ((repeat' (first | rfl)); done))))); done)))))
noncomputable def m_wire_elementFault (x0 : Tapi_Element) : Option (Int) := (sims_G1_3_0.1 x0).1
theorem spec_wire_elementFault (x0 : Tapi_Element) : ∀ r, m_wire_elementFault x0 = some r → PureSpec Tryz.prog 22 [.agg (rTapi_Element x0)] (.int .i64 r) := (sims_G1_3_0.1 x0).2
noncomputable def m_interchangeref2_CheckSegments (x0 : List Tapi_Segment) : Option (Int) := (sims_G1_3_0.2 x0).1
theorem spec_interchangeref2_CheckSegments (x0 : List Tapi_Segment) : ∀ r, m_interchangeref2_CheckSegments x0 = some r → PureSpec Tryz.prog 15 [.slice (List.map rTapi_Segment x0)] (.int .i64 r) := (sims_G1_3_0.2 x0).2

def sc_wire_CheckSegments_L1 : SC :=
  (.seq (.reg [.r 29 (.bin .lss (.t 28) (.t 27))])
  (.seq (.cond (.t 29)
    .skip
    (.exit 2))
  (.seq (.block 3 (.seq (.reg [.r 30 (.idx 1 (.t 26) (.t 28)),
       .o 31 (.ldA 1 (.t 30)),
       .w 6 (.boxM (.c (.agg [.nils]))),
       .w 0 (.st 1 (.t 6) (.t 31))])
    (.seq (.reg [.o 32 (.ldA 1 (.t 6)),
       .c 33 (.f 22) [.t 32],
       .r 7 (.mv (.t 33))])
    (.seq (.reg [.r 34 (.mv (.t 7)),
       .r 35 (.bin .neq (.t 34) (.c (.d (.int .i64 0))))])
    (.cond (.t 35)
      (.seq (.reg [.r 36 (.mv (.t 7)),
         .r 2 (.mv (.t 36))])
      .ret)
      .skip)))))
  (.reg [.r 37 (.bin .add (.t 28) (.c (.d (.int .i64 1)))),
     .r 28 (.mv (.t 37))]))))
def sc_wire_CheckSegments_B1 : SC := .block 2 (.loop sc_wire_CheckSegments_L1)
def sc_wire_CheckSegments_L2 : SC :=
  (.seq (.reg [.r 14 (.bin .lss (.t 13) (.t 12))])
  (.seq (.cond (.t 14)
    .skip
    (.exit 0))
  (.seq (.block 1 (.seq (.reg [.r 15 (.idx 2 (.t 11) (.t 13)),
       .o 16 (.ldA 2 (.t 15)),
       .w 4 (.boxM (.c (.agg [.d (.str []), .nils]))),
       .w 0 (.st 2 (.t 4) (.t 16))])
    (.seq (.seq (.reg [.r 17 (.fld 0 (.t 4)),
       .o 18 (.ld1 (.t 17)),
       .c 19 (.f 21) [.t 18],
       .r 20 (.not (.t 19))])
    (.cond (.t 20)
      (.seq (.reg [.r 2 (.mv (.c (.d (.int .i64 5))))])
      .ret)
      .skip))
    (.seq (.seq (.reg [.r 21 (.fld 1 (.t 4)),
       .o 22 (.ld1 (.t 21)),
       .r 23 (.len (.t 22)),
       .r 24 (.bin .gtr (.t 23) (.c (.d (.int .i64 50))))])
    (.cond (.t 24)
      (.seq (.reg [.r 2 (.mv (.c (.d (.int .i64 2))))])
      .ret)
      .skip))
    (.seq (.reg [.r 25 (.fld 1 (.t 4)),
       .o 26 (.ld1 (.t 25)),
       .r 27 (.len (.t 26)),
       .r 28 (.mv (.c (.d (.int .i64 0))))])
    sc_wire_CheckSegments_B1)))))
  (.reg [.r 38 (.bin .add (.t 13) (.c (.d (.int .i64 1)))),
     .r 13 (.mv (.t 38))]))))
def sc_wire_CheckSegments_B2 : SC := .block 0 (.loop sc_wire_CheckSegments_L2)
/-- interchange/wire.CheckSegments -/
def sc_wire_CheckSegments : SC :=
  (.seq (.reg [.r 2 (.mv (.c (.d (.int .i64 0))))])
  (.seq (.seq (.reg [.r 8 (.mv (.t 0)),
     .r 9 (.len (.t 8)),
     .r 10 (.bin .gtr (.t 9) (.c (.d (.int .i64 2000))))])
  (.cond (.t 10)
    (.seq (.reg [.r 2 (.mv (.c (.d (.int .i64 2))))])
    .ret)
    .skip))
  (.seq (.seq (.reg [.r 11 (.mv (.t 0)),
     .r 12 (.len (.t 11)),
     .r 13 (.mv (.c (.d (.int .i64 0))))])
  sc_wire_CheckSegments_B2)
  (.seq (.reg [.r 2 (.mv (.c (.d (.int .i64 0))))])
  .ret))))
theorem fit_wire_CheckSegments : fits Tryz.prog 13 Tryz.f13 sc_wire_CheckSegments [.t 2] 1 = true := by kernel_rfl

set_option maxRecDepth 100000 in
set_option maxHeartbeats 40000000 in
noncomputable def sims_G1_4_0 : (∀ (x0 : List Tapi_Segment), {m : Option (Int) // ∀ r, m = some r → PureSpec Tryz.prog 13 [.slice (List.map rTapi_Segment x0)] (.int .i64 r)}) := by
  (intro x0; apply Subtype.mk; intro r hm; apply pure_walk Tryz.func13 fit_wire_CheckSegments; unfold sc_wire_CheckSegments)
  repeat' (first | with_reducible refine W_seq ?_ | with_reducible refine W_reg ?_ | with_reducible refine W_block ?_ | with_reducible refine W_skip ?_ | with_reducible refine W_ret ?_ | with_reducible refine W_exit ?_ | with_reducible refine O_nil ?_ | with_reducible refine K_seq ?_ | with_reducible refine K_seqE ?_ | with_reducible refine K_seqR ?_ | with_reducible refine K_block ?_ | with_reducible refine K_blockR ?_ | with_reducible refine O_o2r ?_ | ((with_reducible apply O_idxr hm); (iterate 2 (simp only [push_cast, seval]; rfl)); (intro _; rfl); intro e hm) | ((with_reducible apply O_r); (simp only [push_cast, seval]; rfl); (first | exact trivial)) | ((with_reducible apply O_cF hm); (simp only [push_cast, seval]; rfl); (first | apply spec_kit_IsTag _ | apply spec_wire_elementFault _); (any_goals ((repeat' (first | rfl)); done)); intro x hm) | ((with_reducible apply O_w); (simp only [push_cast, seval]; rfl); (first | exact trivial)) | ((with_reducible apply S_condB hm); (simp only [push_cast, seval]; rfl); intro hm; rotate_left; intro hm) | ((with_reducible apply K_endS hm); (focus (simp only [resOf, resL, RV.get, push_cast, seval]; rfl)); (focus ((repeat' (first | rfl)); done))) | ((with_reducible apply K_leave hm); intro r hm) | ((with_reducible apply K_leaveR hm); intro r hm) | ((apply S_loopY (b := 2) (X := sc_wire_CheckSegments_B1) (x := sc_wire_CheckSegments_L1) rfl (fun (c : SV × SV × SV × SV × SV) (s : Int) => st [(11, c.1), (12, c.2.1), (13, c.2.2.1), (26, c.2.2.2.1), (27, c.2.2.2.2), (28, .d (.int .i64 s))] []) (c := (_, _, _, _, _)) (s0 := _) hm); (focus (first | (dsimp only; done))); (with_reducible refine Then.mk ?_ ?_)) | ((apply S_loopY (b := 0) (X := sc_wire_CheckSegments_B2) (x := sc_wire_CheckSegments_L2) rfl (fun (c : SV × SV) (s : Int) => st [(11, c.1), (12, c.2), (13, .d (.int .i64 s))] []) (c := (_, _)) (s0 := _) hm); (focus (first | (dsimp only; done))); (with_reducible refine Then.mk ?_ ?_)) | ((apply K_next (s' := _) hm); (focus (first | (dsimp only; done)))) | ((apply K_brk (s' := _) hm); (focus (first | (dsimp only; done)))) | (((with_reducible apply K_brkR hm); intro r hm)) | (((with_reducible apply LoopB.of); (focus (first | (dsimp only; done))); (focus ((intro _; repeat' (first | with_reducible exact impC_end | with_reducible refine impC_seq ?_ | with_reducible refine impC_block ?_ | ((with_reducible refine impC_rnd ?_); intro _) | ((with_reducible refine impC_brk ?_); intro _))))); (intro s o hm; first | unfold sc_wire_CheckSegments_L1 | unfold sc_wire_CheckSegments_L2); rotate_left; intro s hm)) | (((apply imp_stT; (repeat' (first | with_reducible exact keepT_nil | with_reducible exact keepC_nil | with_reducible apply keepT_cons | ((with_reducible apply svle_eq); (focus (first | (simp only [push_cast, seval]; rfl))); (focus ((repeat' (first | rfl)); done))))); done))))
noncomputable def m_wire_CheckSegments (x0 : List Tapi_Segment) : Option (Int) := (sims_G1_4_0 x0).1
theorem spec_wire_CheckSegments (x0 : List Tapi_Segment) : ∀ r, m_wire_CheckSegments x0 = some r → PureSpec Tryz.prog 13 [.slice (List.map rTapi_Segment x0)] (.int .i64 r) := (sims_G1_4_0 x0).2

end Go.Proofs.YtcnohbiegjahkaaGreatDoor

/-
  Bodies of functions and what they compute, printed by programs of mine (wip/tool/gen.py, sc.py) out of the translation; the kernel holds each against the translation.
-/
namespace Go.Proofs.YtcnohbiegjahkaaGreatDoor
open Go.RowKit
set_option linter.unusedSimpArgs false
set_option linter.unusedVariables false
structure Tapi_Marks where
  fElement : UInt8
  fPart : UInt8
  fRepeat : UInt8
  fEscape : UInt8
  fEnd : UInt8
  deriving DecidableEq
def rTapi_Marks (x : Tapi_Marks) : List DV := [.int .u8 (x.fElement).toNat, .int .u8 (x.fPart).toNat, .int .u8 (x.fRepeat).toNat, .int .u8 (x.fEscape).toNat, .int .u8 (x.fEnd).toNat]
attribute [push_cast] rTapi_Marks
theorem fT_Tapi_Marks {d0 d1 d2 d3 d4 : DV} {v0 : UInt8} {v1 : UInt8} {v2 : UInt8} {v3 : UInt8} {v4 : UInt8} (h0 : d0 = .int .u8 (v0).toNat) (h1 : d1 = .int .u8 (v1).toNat) (h2 : d2 = .int .u8 (v2).toNat) (h3 : d3 = .int .u8 (v3).toNat) (h4 : d4 = .int .u8 (v4).toNat) : [d0, d1, d2, d3, d4] = rTapi_Marks ⟨v0, v1, v2, v3, v4⟩ := by unfold rTapi_Marks; simp only [h0, h1, h2, h3, h4, List.cons_append, List.nil_append, List.append_assoc, List.append_nil]
/-- interchange/wire.isMarkByte -/
def sc_wire_isMarkByte : SC :=
  (.seq (.reg [.r 2 (.mv (.c (.d (.bool false))))])
  (.seq (.reg [.r 4 (.mv (.t 0)),
     .r 5 (.cvis (.t 4)),
     .r 3 (.mv (.t 5))])
  (.seq (.reg (.r 6 (.mv (.t 0)) :: .r 7 (.bin .geq (.t 6) (.c (.d (.int .u8 33)))) :: .r 8 (.mv (.t 7)) :: gapp [9, 10] 8 true (.r 9 (.mv (.t 0)) :: .r 10 (.bin .leq (.t 9) (.c (.d (.int .u8 126)))) :: []) (.r 11 (.pick (.t 8) (.t 10) (.c (.d (.bool false)))) :: .r 12 (.mv (.t 11)) :: gapp [13, 14, 15] 12 true (.r 13 (.mv (.t 3)) :: .c 14 (.f 50) [.t 13] :: .r 15 (.not (.t 14)) :: []) (.r 16 (.pick (.t 12) (.t 15) (.c (.d (.bool false)))) :: .r 17 (.mv (.t 16)) :: gapp [18, 19, 20] 17 true (.r 18 (.mv (.t 3)) :: .c 19 (.f 84) [.t 18, .c (.d (.int .u8 97)), .c (.d (.int .u8 122))] :: .r 20 (.not (.t 19)) :: []) (.r 21 (.pick (.t 17) (.t 20) (.c (.d (.bool false)))) :: .r 22 (.mv (.t 21)) :: gapp [23, 24, 25] 22 true (.r 23 (.mv (.t 3)) :: .c 24 (.f 85) [.t 23, .c (.d (.str [46, 45, 43, 95]))] :: .r 25 (.not (.t 24)) :: []) (.r 26 (.pick (.t 22) (.t 25) (.c (.d (.bool false)))) :: .r 2 (.mv (.t 26)) :: []))))))
  .ret)))
theorem fit_wire_isMarkByte : fits Tryz.prog 66 Tryz.f66 sc_wire_isMarkByte [.t 2] 1 = true := by kernel_rfl

def sc_slices_Index_byte_byte_L1 : SC :=
  (.seq (.reg [.r 9 (.bin .lss (.t 8) (.t 7))])
  (.seq (.cond (.t 9)
    .skip
    (.exit 0))
  (.seq (.block 1 (.seq (.reg [.r 10 (.mv (.t 8)),
       .r 5 (.mv (.t 10))])
    (.seq (.reg [.r 11 (.mv (.t 1)),
       .r 12 (.mv (.t 0)),
       .r 13 (.mv (.t 5)),
       .r 14 (.idx 1 (.t 12) (.t 13)),
       .o 15 (.ld1 (.t 14)),
       .r 16 (.bin .eql (.t 11) (.t 15))])
    (.cond (.t 16)
      (.seq (.reg [.r 17 (.mv (.t 5)),
         .r 4 (.mv (.t 17))])
      .ret)
      .skip))))
  (.reg [.r 18 (.bin .add (.t 8) (.c (.d (.int .i64 1)))),
     .r 8 (.mv (.t 18))]))))
def sc_slices_Index_byte_byte_B1 : SC := .block 0 (.loop sc_slices_Index_byte_byte_L1)
/-- slices.Index[[]byte,byte] -/
def sc_slices_Index_byte_byte : SC :=
  (.seq (.reg [.r 4 (.mv (.c (.d (.int .i64 0))))])
  (.seq (.seq (.reg [.r 6 (.mv (.t 0)),
     .r 7 (.len (.t 6)),
     .r 8 (.mv (.c (.d (.int .i64 0))))])
  sc_slices_Index_byte_byte_B1)
  (.seq (.reg [.r 4 (.mv (.c (.d (.int .i64 (-1)))))])
  .ret)))
theorem fit_slices_Index_byte_byte : fits Tryz.prog 86 Tryz.f86 sc_slices_Index_byte_byte [.t 4] 2 = true := by kernel_rfl

set_option maxRecDepth 100000 in
set_option maxHeartbeats 40000000 in
noncomputable def sims_G1M_0_0 : (∀ (x0 : UInt8), {m : Option (Bool) // ∀ r, m = some r → PureSpec Tryz.prog 66 [.int .u8 (x0).toNat] (.bool r)}) × (∀ (x0 : List UInt8) (x1 : UInt8), {m : Option (Int) // ∀ r, m = some r → PureSpec Tryz.prog 86 [.slice (List.map rowY x0), .int .u8 (x1).toNat] (.int .i64 r)}) := by
  refine ⟨?g0, ?g1⟩
  case' g0 => (intro x0; apply Subtype.mk; intro r hm; apply pure_walk Tryz.func66 fit_wire_isMarkByte; unfold sc_wire_isMarkByte)
  case' g1 => (intro x0 x1; apply Subtype.mk; intro r hm; apply pure_walk Tryz.func86 fit_slices_Index_byte_byte; unfold sc_slices_Index_byte_byte)
  all_goals (repeat' (first | with_reducible refine W_seq ?_ | with_reducible refine W_reg ?_ | with_reducible refine W_block ?_ | with_reducible refine W_skip ?_ | with_reducible refine W_ret ?_ | with_reducible refine W_exit ?_ | with_reducible refine O_nil ?_ | with_reducible refine K_seq ?_ | with_reducible refine K_seqE ?_ | with_reducible refine K_seqR ?_ | with_reducible refine K_block ?_ | with_reducible refine K_blockR ?_ | with_reducible refine O_o2r ?_ | ((with_reducible apply O_idxr hm); (iterate 2 (simp only [push_cast, seval]; rfl)); (intro _; rfl); intro e hm) | ((with_reducible apply O_r); (simp only [push_cast, seval]; rfl); (first | exact trivial)) | ((with_reducible apply O_and hm); (simp only [push_cast, seval]; rfl); rfl; intro v hm; rotate_left; intro v g hm) | ((with_reducible apply O_cF hm); (simp only [push_cast, seval]; rfl); (first | apply spec_kit_IsTagPart _ | apply spec_kit_InBytes _ _ _ | apply spec_strings_ContainsAny _ _); (any_goals ((repeat' (first | rfl | (with_reducible first | apply f_cons) | (with_reducible apply f_byte; decide))); done)); intro x hm) | ((with_reducible apply S_condB hm); (simp only [push_cast, seval]; rfl); intro hm; rotate_left; intro hm) | ((with_reducible apply K_endS hm); (focus (simp only [resOf, resL, RV.get, push_cast, seval]; rfl)); (focus ((repeat' (first | rfl)); done))) | ((with_reducible apply K_bool hm); (simp only [push_cast, seval]; rfl)) | ((with_reducible apply K_leave hm); intro r hm) | ((with_reducible apply K_leaveR hm); intro r hm) | ((apply S_loopY (b := 0) (X := sc_slices_Index_byte_byte_B1) (x := sc_slices_Index_byte_byte_L1) rfl (fun (c : SV × SV × SV) (s : Int) => st [(0, c.1), (1, c.2.1), (7, c.2.2), (8, .d (.int .i64 s))] []) (c := (_, _, _)) (s0 := _) hm); (focus (first | (dsimp only; done))); (with_reducible refine Then.mk ?_ ?_)) | ((apply K_next (s' := _) hm); (focus (first | (dsimp only; done)))) | ((apply K_brk (s' := _) hm); (focus (first | (dsimp only; done)))) | (((with_reducible apply K_brkR hm); intro r hm)) | (((with_reducible apply LoopB.of); (focus (first | (dsimp only; done))); (focus ((intro _; repeat' (first | with_reducible exact impC_end | with_reducible refine impC_seq ?_)))); (intro s o hm; first | unfold sc_slices_Index_byte_byte_L1); rotate_left; intro s hm)) | (((apply imp_stT; (repeat' (first | with_reducible exact keepT_nil | with_reducible exact keepC_nil | with_reducible apply keepT_cons | ((with_reducible apply svle_eq); (focus (first | (simp only [push_cast, seval]; rfl))); (focus ((repeat' (first | rfl)); done))))); done)))))
noncomputable def m_wire_isMarkByte (x0 : UInt8) : Option (Bool) := (sims_G1M_0_0.1 x0).1
theorem spec_wire_isMarkByte (x0 : UInt8) : ∀ r, m_wire_isMarkByte x0 = some r → PureSpec Tryz.prog 66 [.int .u8 (x0).toNat] (.bool r) := (sims_G1M_0_0.1 x0).2
noncomputable def m_slices_Index_byte_byte (x0 : List UInt8) (x1 : UInt8) : Option (Int) := (sims_G1M_0_0.2 x0 x1).1
theorem spec_slices_Index_byte_byte (x0 : List UInt8) (x1 : UInt8) : ∀ r, m_slices_Index_byte_byte x0 x1 = some r → PureSpec Tryz.prog 86 [.slice (List.map rowY x0), .int .u8 (x1).toNat] (.int .i64 r) := (sims_G1M_0_0.2 x0 x1).2

/-- slices.Contains[[]byte,byte] -/
def sc_slices_Contains_byte_byte : SC :=
  (.seq (.reg [.r 4 (.mv (.c (.d (.bool false))))])
  (.seq (.reg [.r 5 (.mv (.t 0)),
     .r 6 (.mv (.t 1)),
     .c 7 (.f 86) [.t 5, .t 6],
     .r 8 (.bin .geq (.t 7) (.c (.d (.int .i64 0)))),
     .r 4 (.mv (.t 8))])
  .ret))
theorem fit_slices_Contains_byte_byte : fits Tryz.prog 67 Tryz.f67 sc_slices_Contains_byte_byte [.t 4] 2 = true := by kernel_rfl

set_option maxRecDepth 100000 in
set_option maxHeartbeats 40000000 in
noncomputable def sims_G1M_1_0 : (∀ (x0 : List UInt8) (x1 : UInt8), {m : Option (Bool) // ∀ r, m = some r → PureSpec Tryz.prog 67 [.slice (List.map rowY x0), .int .u8 (x1).toNat] (.bool r)}) := by
  (intro x0 x1; apply Subtype.mk; intro r hm; apply pure_walk Tryz.func67 fit_slices_Contains_byte_byte; unfold sc_slices_Contains_byte_byte)
  repeat' (first | with_reducible refine W_seq ?_ | with_reducible refine W_reg ?_ | with_reducible refine W_ret ?_ | with_reducible refine O_nil ?_ | with_reducible refine K_seq ?_ | ((with_reducible apply O_r); (simp only [push_cast, seval]; rfl); (first | exact trivial)) | ((with_reducible apply O_cF hm); (simp only [push_cast, seval]; rfl); (first | apply spec_slices_Index_byte_byte _ _); (any_goals ((repeat' (first | rfl)); done)); intro x hm) | ((with_reducible apply K_endS hm); (focus (simp only [resOf, resL, RV.get, push_cast, seval]; rfl)); (focus ((repeat' (first | rfl)); done))))
noncomputable def m_slices_Contains_byte_byte (x0 : List UInt8) (x1 : UInt8) : Option (Bool) := (sims_G1M_1_0 x0 x1).1
theorem spec_slices_Contains_byte_byte (x0 : List UInt8) (x1 : UInt8) : ∀ r, m_slices_Contains_byte_byte x0 x1 = some r → PureSpec Tryz.prog 67 [.slice (List.map rowY x0), .int .u8 (x1).toNat] (.bool r) := (sims_G1M_1_0 x0 x1).2

def sc_wire_CheckMarks_L1 : SC :=
  (.seq (.reg [.r 20 (.bin .lss (.t 19) (.t 18))])
  (.seq (.cond (.t 20)
    .skip
    (.exit 0))
  (.seq (.block 1 (.seq (.reg [.r 21 (.idx 1 (.t 17) (.t 19)),
       .o 22 (.ld1 (.t 21)),
       .r 5 (.mv (.t 22))])
    (.seq (.reg [.r 23 (.mv (.t 5)),
       .c 24 (.f 66) [.t 23],
       .r 25 (.not (.t 24))])
    (.cond (.t 25)
      (.seq (.reg [.r 2 (.mv (.c (.d (.int .i64 3))))])
      .ret)
      .skip))))
  (.reg [.r 26 (.bin .add (.t 19) (.c (.d (.int .i64 1)))),
     .r 19 (.mv (.t 26))]))))
def sc_wire_CheckMarks_B1 : SC := .block 0 (.loop sc_wire_CheckMarks_L1)
def sc_wire_CheckMarks_L2 : SC :=
  (.seq (.reg [.r 43 (.bin .lss (.t 42) (.t 41))])
  (.seq (.cond (.t 43)
    .skip
    (.exit 2))
  (.seq (.block 3 (.seq (.reg [.r 44 (.mv (.t 42)),
       .r 45 (.idx 1 (.t 40) (.t 42)),
       .o 46 (.ld1 (.t 45)),
       .r 6 (.mv (.t 44)),
       .r 7 (.mv (.t 46))])
    (.seq (.reg [.r 47 (.mv (.t 3)),
       .r 48 (.mv (.t 6)),
       .r 49 (.mv (.t 3)),
       .r 50 (.len (.t 49)),
       .r 51 (.mins (.t 48) [.t 50]),
       .r 52 (.slc 1 (.t 47) none (some (.t 51))),
       .r 53 (.mv (.t 7)),
       .c 54 (.f 67) [.t 52, .t 53]])
    (.cond (.t 54)
      (.seq (.reg [.r 2 (.mv (.c (.d (.int .i64 7))))])
      .ret)
      .skip))))
  (.reg [.r 55 (.bin .add (.t 42) (.c (.d (.int .i64 1)))),
     .r 42 (.mv (.t 55))]))))
def sc_wire_CheckMarks_B2 : SC := .block 2 (.loop sc_wire_CheckMarks_L2)
/-- interchange/wire.CheckMarks -/
def sc_wire_CheckMarks : SC :=
  (.seq (.reg [.r 1 (.boxI (.t 0)),
     .r 2 (.mv (.c (.d (.int .i64 0))))])
  (.seq (.reg [.r 8 (.fld 0 (.t 1)),
     .o 9 (.ld1 (.t 8)),
     .r 10 (.fld 1 (.t 1)),
     .o 11 (.ld1 (.t 10)),
     .r 12 (.fld 2 (.t 1)),
     .o 13 (.ld1 (.t 12)),
     .r 14 (.fld 4 (.t 1)),
     .o 15 (.ld1 (.t 14)),
     .r 16 (.bslice 1 [.t 9, .t 11, .t 13, .t 15]),
     .r 3 (.mv (.t 16))])
  (.seq (.seq (.reg [.r 17 (.mv (.t 3)),
     .r 18 (.len (.t 17)),
     .r 19 (.mv (.c (.d (.int .i64 0))))])
  sc_wire_CheckMarks_B1)
  (.seq (.seq (.reg (.r 27 (.fld 3 (.t 1)) :: .o 28 (.ld1 (.t 27)) :: .r 29 (.bin .neq (.t 28) (.c (.d (.int .u8 0)))) :: .r 30 (.mv (.t 29)) :: gapp [31, 32, 33, 34] 30 true (.r 31 (.fld 3 (.t 1)) :: .r 32 (.ld1 (.t 31)) :: .c 33 (.f 66) [.t 32] :: .r 34 (.not (.t 33)) :: []) (.r 35 (.pick (.t 30) (.t 34) (.c (.d (.bool false)))) :: [])))
  (.cond (.t 35)
    (.seq (.reg [.r 2 (.mv (.c (.d (.int .i64 3))))])
    .ret)
    .skip))
  (.seq (.seq (.reg [.r 36 (.mv (.t 3)),
     .r 37 (.fld 3 (.t 1)),
     .o 38 (.ld1 (.t 37)),
     .r 39 (.bslice 1 [.t 38]),
     .w 40 (.app 5 1 (.t 36) (.t 39)),
     .r 41 (.len (.t 40)),
     .r 42 (.mv (.c (.d (.int .i64 0))))])
  sc_wire_CheckMarks_B2)
  (.seq (.reg [.r 2 (.mv (.c (.d (.int .i64 0))))])
  .ret))))))
theorem fit_wire_CheckMarks : fits Tryz.prog 38 Tryz.f38 sc_wire_CheckMarks [.t 2] 1 = true := by kernel_rfl

set_option maxRecDepth 100000 in
set_option maxHeartbeats 40000000 in
noncomputable def sims_G1M_2_0 : (∀ (x0 : Tapi_Marks), {m : Option (Int) // ∀ r, m = some r → PureSpec Tryz.prog 38 [.agg (rTapi_Marks x0)] (.int .i64 r)}) := by
  (intro x0; apply Subtype.mk; intro r hm; apply pure_walk Tryz.func38 fit_wire_CheckMarks; unfold sc_wire_CheckMarks)
  repeat' (first | with_reducible refine W_seq ?_ | with_reducible refine W_reg ?_ | with_reducible refine W_block ?_ | with_reducible refine W_skip ?_ | with_reducible refine W_ret ?_ | with_reducible refine W_exit ?_ | with_reducible refine O_nil ?_ | with_reducible refine K_seq ?_ | with_reducible refine K_seqE ?_ | with_reducible refine K_seqR ?_ | with_reducible refine K_block ?_ | with_reducible refine K_blockR ?_ | with_reducible refine O_o2r ?_ | ((with_reducible apply O_idxVr hm); (iterate 3 (simp only [push_cast, seval]; rfl)); intro e hm) | ((with_reducible apply O_idxLr hm (row := rowY)); (iterate 2 (simp only [push_cast, seval]; rfl)); (focus ((repeat' (first | rfl | (with_reducible first | apply dv_slice | apply fold_nil | apply fold_cons))); done)); (simp only [push_cast, seval]; rfl); (intro _; rfl); intro e hm) | ((with_reducible apply O_slcLr hm (row := rowY)); (iterate 2 (simp only [push_cast, seval]; rfl)); (focus ((repeat' (first | rfl | (with_reducible first | apply dv_slice | apply fold_nil | apply fold_cons))); done)); (iterate 2 (simp only [push_cast, seval]; rfl)); intro e hm) | ((with_reducible apply O_r); (simp only [push_cast, seval]; rfl); (first | exact trivial)) | ((with_reducible apply O_ldV1r hm); (iterate 2 (simp only [push_cast, seval]; rfl)); (intro _; rfl); intro e hm) | ((with_reducible apply O_and hm); (simp only [push_cast, seval]; rfl); rfl; intro v hm; rotate_left; intro v g hm) | ((with_reducible apply O_cF hm); (simp only [push_cast, seval]; rfl); (first | apply spec_wire_isMarkByte _ | apply spec_slices_Contains_byte_byte _ _); (any_goals ((repeat' (first | rfl)); done)); intro x hm) | ((with_reducible apply O_appL hm (row := rowY)); (iterate 5 (simp only [push_cast, seval]; rfl)); (focus ((repeat' (first | rfl | (with_reducible first | apply dv_slice | apply fold_nil | apply fold_cons))); done)); (focus ((repeat' (first | rfl | (with_reducible first | apply dv_slice | apply fold_nil | apply fold_cons))); done)); rfl; decide; (intro _; rfl); intro hm) | ((with_reducible apply S_condB hm); (simp only [push_cast, seval]; rfl); intro hm; rotate_left; intro hm) | ((with_reducible apply K_endS hm); (focus (simp only [resOf, resL, RV.get, push_cast, seval]; rfl)); (focus ((repeat' (first | rfl)); done))) | ((with_reducible apply K_bool hm); (simp only [push_cast, seval]; rfl)) | ((with_reducible apply K_leave hm); intro r hm) | ((with_reducible apply K_leaveR hm); intro r hm) | ((apply S_loopY (b := 0) (X := sc_wire_CheckMarks_B1) (x := sc_wire_CheckMarks_L1) rfl (fun (c : SV × SV × SV × SV) (s : Int) => st [(1, c.1), (3, c.2.1), (17, c.2.2.1), (18, c.2.2.2), (19, .d (.int .i64 s))] []) (c := (_, _, _, _)) (s0 := _) hm); (focus (first | (dsimp only; done))); (with_reducible refine Then.mk ?_ ?_)) | ((apply S_loopY (b := 2) (X := sc_wire_CheckMarks_B2) (x := sc_wire_CheckMarks_L2) rfl (fun (c : SV × Ch × SV) (s : Int) => st [(3, c.1), (40, .vec 40), (41, c.2.2), (42, .d (.int .i64 s))] [(40, c.2.1)]) (c := (_, _, _)) (s0 := _) hm); (focus (first | (dsimp only; done))); (with_reducible refine Then.mk ?_ ?_)) | ((apply K_next (s' := _) hm); (focus (first | (dsimp only; done)))) | ((apply K_brk (s' := _) hm); (focus (first | (dsimp only; done)))) | (((with_reducible apply K_brkR hm); intro r hm)) | (((with_reducible apply LoopB.of); (focus (first | (dsimp only; done))); (focus ((intro _; repeat' (first | with_reducible exact impC_end | with_reducible refine impC_seq ?_)))); (intro s o hm; first | unfold sc_wire_CheckMarks_L1 | unfold sc_wire_CheckMarks_L2); rotate_left; intro s hm)) | (((apply imp_stT; (repeat' (first | with_reducible exact keepT_nil | with_reducible exact keepC_nil | with_reducible apply keepT_cons | with_reducible apply keepC_cons | ((with_reducible apply svle_eq); (focus (first | (simp only [push_cast, seval]; rfl))); (focus ((repeat' (first | rfl)); done))) | ((with_reducible apply chle_eq); (focus (first | (simp only [push_cast, seval]; rfl))); (first | with_reducible exact chle_rfl rfl)))); done))))
noncomputable def m_wire_CheckMarks (x0 : Tapi_Marks) : Option (Int) := (sims_G1M_2_0 x0).1
theorem spec_wire_CheckMarks (x0 : Tapi_Marks) : ∀ r, m_wire_CheckMarks x0 = some r → PureSpec Tryz.prog 38 [.agg (rTapi_Marks x0)] (.int .i64 r) := (sims_G1M_2_0 x0).2

end Go.Proofs.YtcnohbiegjahkaaGreatDoor

/-
  A row that a call has made, as data.
-/
namespace Go.Proofs.YtcnohbiegjahkaaGreatDoor
set_option linter.unusedSimpArgs false
set_option linter.unusedVariables false
open Go.RowKit Go.Lib
theorem dR_toDVs : ∀ (l : List DV), SV.toDVs (dR l) = some l
  | [] => rfl
  | d :: l => by
    have ih := dR_toDVs l
    simp only [dR, List.map_cons, SV.toDVs, SV.toDV] at ih ⊢
    rw [ih]
end Go.Proofs.YtcnohbiegjahkaaGreatDoor

/-
  Calls whose result is an owned slice.
-/
namespace Go.Proofs.YtcnohbiegjahkaaGreatDoor
set_option linter.unusedSimpArgs false
set_option linter.unusedVariables false
open Go.RowKit Go.Lib

theorem dR_flat : ∀ (rows : List (List DV)), (rows.map dR).flatten = dR rows.flatten
  | [] => rfl
  | r :: rows => by
    have ih := dR_flat rows
    simp only [dR, List.map_cons, List.flatten_cons, List.map_append] at ih ⊢
    rw [ih]
end Go.Proofs.YtcnohbiegjahkaaGreatDoor

/-
  Calls whose result is an owned slice and a number.
-/
namespace Go.Proofs.YtcnohbiegjahkaaGreatDoor
set_option linter.unusedSimpArgs false
set_option linter.unusedVariables false
open Go.RowKit Go.Lib

theorem ownsRow_le {w : World} {n m e s k : Nat} {v : Value} {xs : List Value} (h : n ≤ m) (ho : w.ownsRow m e s v k xs) : w.ownsRow n e s v k xs := by
  refine ⟨ho.1, ?_⟩
  rcases ho.2 with hn | ⟨g, cap, cur, hv, hb, rest⟩
  · exact .inl hn
  · exact .inr ⟨g, cap, cur, hv, Nat.le_trans h hb, rest⟩
/-- A contract whose result is an owned slice and a number, out of what the kit says of the call. -/
theorem own_spec2 {P : Program} {f : FuncId} {args : List DV} {rows : List (List DV)} {size e : Nat} {n : Int} (hcall : callable P f = true) (hall : ∀ r ∈ rows, r.length = size)
    (h : ∀ (w : World) (M : Nat → Prop) (vs : List Value), (∀ b, M b → b < w.heap.size) → RepL w M args vs → Good w → Calls P f vs.toArray w fun ev w' => ∃ v news, ev = .returned (.tuple #[v, .int .i64 n]) ∧ w'.ownsRow w.heap.size e size v rows.length news ∧ RepL w M rows.flatten news ∧ (∀ u ∈ news, u.oneCell' = true) ∧ Below w.heap.size w w') :
    FSpec P f (args.map .d) (.tup [.own (.sl e (List.replicate size .sh)) (.slice rows), .d (.int .i64 n)]) (args.map .d) := by
  refine ⟨hcall, fun w M vs F hM hF hn hv hg _ => ?_⟩
  have hno : SV.noOwns (args.map SV.d) = true := toDVs_noOwns _ _ (dR_toDVs args)
  obtain ⟨hS, rfl⟩ := RepGL.to_S _ _ _ hno hv
  have hR := RepSL.toDVs _ _ _ hS (dR_toDVs args)
  refine (h w _ vs (fun b hb => by rcases hb with hb | hb; exact (hM b hb).1; cases hb) hR hg).mono ?_
  rintro ev w' ⟨v, news, rfl, ho, hnews, h1, hB⟩
  have hfresh : ∀ b ∈ blkL v, w.heap.size ≤ b ∧ b < w'.heap.size := by
    intro b hb
    rcases ho.2 with ⟨rfl, _⟩ | ⟨g, cap, cur, rfl, hb2, hg, _⟩
    · simp [blkL, blk] at hb
    · simp [blkL, blk] at hb
      subst hb
      exact ⟨hb2, (Array.getElem?_eq_some_iff.1 hg).1⟩
  have hext : Ext w (fun b => M b ∨ b ∈ ([] : List Nat)) w' (fun b => M b ∨ b ∈ [] ++ blkL v) := ⟨hB.size, fun b hb hm => ⟨hB.block b hb, fun hm' => by
    rcases hm' with hm' | hm'
    · exact hm (.inl hm')
    · have := (hfresh b (by simpa using hm')).1; omega⟩⟩
  refine ⟨_, [], blkL v, rfl, RepGL.of_S _ _ (RepSL.of_d (hR.ext hext)), ?_, ?_, ?_, Chg.of_below hB⟩
  · unfold RepG
    refine ⟨[v, .int .i64 n], rfl, ?_⟩
    simp only [RepGL]
    refine ⟨v, _, blkL v, [], rfl, (List.append_nil _).symm, ?_, _, _, [], [], rfl, rfl, ?_, rfl, rfl⟩
    rotate_left
    · unfold RepG; exact ⟨rfl, by simp only [RepS, Rep]⟩
    unfold RepG RepO
    refine ⟨rows, news, [], rfl, ⟨by simpa using ho.1, ?_⟩, h1, by simpa using hall, ?_, by simp⟩
    · rcases ho.2 with hn | ⟨g, cap, cur, hv, hb, rest⟩
      · exact .inl hn
      · simp only [List.length_replicate]
        exact .inr ⟨g, cap, cur, hv, Nat.zero_le _, rest⟩
    · refine (ownRows_iff (κ := κ0) (by simpa using hall)).1 ?_
      have e1 : rows.map (ownR (List.replicate size .sh)) = rows.map dR := List.map_congr_left fun r hr => by
        have := ownR_sh (row := fun _ : Unit => r) (n := size) (fun _ => hall r hr) [()]
        simpa [vrow] using this
      rw [e1, dR_flat]
      exact RepGL.of_S _ _ (RepSL.of_d (hnews.ext hext))
  · cases hv' : blk v with
    | none => simp [blkL, hv']
    | some b => simp [blkL, hv']
  · intro b hb
    have := hfresh b (by simpa using hb)
    exact ⟨.inr this.1, this.2⟩

end Go.Proofs.YtcnohbiegjahkaaGreatDoor

/-
  wire.Heading, by hand: the one place where bytes of a constant string are appended to.
-/
namespace Go.Proofs.YtcnohbiegjahkaaGreatDoor
set_option linter.unusedSimpArgs false
set_option linter.unusedVariables false
open Go.RowKit Go.Shelf Go.Lib

def hbytes (x : Tapi_Marks) : List UInt8 := [77, 82, 75, x.fElement, x.fPart, x.fRepeat, if x.fEscape = 0 then 32 else x.fEscape, x.fEnd]
noncomputable def m_wire_Heading (x0 : Tapi_Marks) : Option (List UInt8 × Int) := (m_wire_CheckMarks x0).bind fun c => if c = 0 then some (hbytes x0, 0) else some ([], c)
theorem alloc_row (w : World) (C : Array Value) (e : TypeId) (m : Nat × Nat) (j : Nat) (u : Value) (h : C.toList[j]? = some u) : (w.alloc (.cells C e m)).cell? ((⟨w.heap.size, 0, none⟩ : Addr).add j) = some u := by
  have hh : (w.alloc (.cells C e m)).heap[w.heap.size]? = some (.cells C e m) := by
    show (w.heap.push _)[w.heap.size]? = _
    simp
  rw [Addr.add_lit]
  unfold World.cell?
  rw [hh]
  simpa using h
theorem alloc_row2 (w : World) (o : Obj) (C : Array Value) (e : TypeId) (m : Nat × Nat) (j : Nat) (u : Value) (h : C.toList[j]? = some u) : ((w.alloc o).alloc (.cells C e m)).cell? ((⟨w.heap.size + 1, 0, none⟩ : Addr).add j) = some u := by
  have hs : (w.alloc o).heap.size = w.heap.size + 1 := by show (w.heap.push _).size = _; rw [Array.size_push]
  have := alloc_row (w.alloc o) C e m j u h
  rwa [hs] at this
theorem esc_t (b : UInt8) (h : ((b.toNat : Int) == 0) = true) : (if b = 0 then (32 : UInt8) else b) = 32 := by
  have h1 : (b.toNat : Int) = 0 := by simpa using h
  have h2 : b = 0 := UInt8.toNat_inj.1 (by show b.toNat = 0; omega)
  rw [if_pos h2]
theorem esc_f (b : UInt8) (h : ((b.toNat : Int) == 0) = false) : (if b = 0 then (32 : UInt8) else b) = b := by
  rw [if_neg]
  rintro rfl
  simp at h
set_option maxRecDepth 100000 in
theorem inf5 : ∃ i z, Tryz.prog.info? 5 = some i ∧ i.zero = some z ∧ i.size = 1 ∧ i.bytes = 1 ∧ z.cells.size = 1 := ⟨_, _, rfl, rfl, rfl, rfl, rfl⟩
set_option maxRecDepth 100000 in
set_option maxHeartbeats 4000000 in
theorem heading_calls (x0 : Tapi_Marks) (r : List UInt8 × Int) (hr : m_wire_Heading x0 = some r) (w : World) (M : Nat → Prop) (vs : List Value) (hM : ∀ b, M b → b < w.heap.size) (hv : RepL w M [.agg (rTapi_Marks x0)] vs) (hg : Good w) :
    Calls Tryz.prog 17 vs.toArray w fun ev w' => ∃ v, ev = .returned (.tuple #[v, .int .i64 r.2]) ∧ w'.ownsRow w.heap.size 5 1 v r.1.length (r.1.map fun b => (b.toNat : Int) |> Value.int .u8) ∧ Below w.heap.size w w' := by
  unfold m_wire_Heading at hr
  cases hc : m_wire_CheckMarks x0 with
  | none => rw [hc] at hr; cases hr
  | some c =>
  rw [hc] at hr
  simp only [Option.bind_some] at hr
  have hp := spec_wire_CheckMarks x0 c hc
  simp only [RepL, Rep, rTapi_Marks] at hv
  obtain ⟨u, us, rfl, ⟨vs, rfl, -, u0, us0, rfl, rfl, u1, us1, rfl, rfl, u2, us2, rfl, rfl, u3, us3, rfl, rfl, u4, us4, rfl, rfl, rfl⟩, rfl⟩ := hv
  have hcon := hp.2 (w.alloc (.cells #[.int .u8 x0.fElement.toNat, .int .u8 x0.fPart.toNat, .int .u8 x0.fRepeat.toNat, .int .u8 x0.fEscape.toNat, .int .u8 x0.fEnd.toNat] 51)) M _ (fun b hb => by have := hM b hb; show b < (w.heap.push _).size; rw [Array.size_push]; omega) (by simp only [RepL, Rep, rTapi_Marks]; exact ⟨_, _, rfl, ⟨_, rfl, by simp [Value.oneCell'], _, _, rfl, rfl, _, _, rfl, rfl, _, _, rfl, rfl, _, _, rfl, rfl, _, _, rfl, rfl, rfl⟩, rfl⟩) (hg.below ((Below.refl _ w).alloc (Nat.le_refl _) _))
  have kc := fun (w : World) (C : Array Value) (n c : Nat) => Lib.run_convert_bytes_const (P := Tryz.prog) w 47 5 C n c Tryz.underlying47 Tryz.underlying5
  have hsz : (w.alloc (.cells #[.int .u8 x0.fElement.toNat, .int .u8 x0.fPart.toNat, .int .u8 x0.fRepeat.toNat, .int .u8 x0.fEscape.toNat, .int .u8 x0.fEnd.toNat] 51)).heap.size = w.heap.size + 1 := by show (w.heap.push _).size = _; rw [Array.size_push]
  have hcell : ∀ k, (w.alloc (.cells #[.int .u8 x0.fElement.toNat, .int .u8 x0.fPart.toNat, .int .u8 x0.fRepeat.toNat, .int .u8 x0.fEscape.toNat, .int .u8 x0.fEnd.toNat] 51)).cell? ⟨w.heap.size, k, none⟩ = (#[.int .u8 x0.fElement.toNat, .int .u8 x0.fPart.toNat, .int .u8 x0.fRepeat.toNat, .int .u8 x0.fEscape.toNat, .int .u8 x0.fEnd.toNat] : Array Value)[k]? := by
    intro k
    have hh : (w.alloc (.cells #[.int .u8 x0.fElement.toNat, .int .u8 x0.fPart.toNat, .int .u8 x0.fRepeat.toNat, .int .u8 x0.fEscape.toNat, .int .u8 x0.fEnd.toNat] 51)).heap[w.heap.size]? = some (.cells #[.int .u8 x0.fElement.toNat, .int .u8 x0.fPart.toNat, .int .u8 x0.fRepeat.toNat, .int .u8 x0.fEscape.toNat, .int .u8 x0.fEnd.toNat] 51) := by
      show (w.heap.push _)[w.heap.size]? = _
      simp
    unfold World.cell?
    rw [hh]
    rfl
  by_cases h0 : c = 0
  · subst h0
    obtain ⟨i0, z, hi, hz0, hz1, hz2, hzs⟩ := inf5
    go_enter Tryz.func17, Tryz.ntmps17
    go_wp2_with (first | (go_at_call 38; refine hcon.mono ?_; rintro e w' ⟨v, rfl, hrep, hB⟩; simp only [Rep] at hrep; subst hrep; have c0 := (hB.cell (p := ⟨w.heap.size, 0, none⟩) (by rw [hsz]; exact Nat.lt_succ_self _)).trans (hcell 0); have c1 := (hB.cell (p := ⟨w.heap.size, 1, none⟩) (by rw [hsz]; exact Nat.lt_succ_self _)).trans (hcell 1); have c2 := (hB.cell (p := ⟨w.heap.size, 2, none⟩) (by rw [hsz]; exact Nat.lt_succ_self _)).trans (hcell 2); have c3 := (hB.cell (p := ⟨w.heap.size, 3, none⟩) (by rw [hsz]; exact Nat.lt_succ_self _)).trans (hcell 3); have c4 := (hB.cell (p := ⟨w.heap.size, 4, none⟩) (by rw [hsz]; exact Nat.lt_succ_self _)).trans (hcell 4); dsimp at c0 c1 c2 c3 c4; have d0 := fun o => Lib.cell?_alloc_marked (W := w') o c0; have d1 := fun o => Lib.cell?_alloc_marked (W := w') o c1; have d2 := fun o => Lib.cell?_alloc_marked (W := w') o c2; have d3 := fun o => Lib.cell?_alloc_marked (W := w') o c3; have d4 := fun o => Lib.cell?_alloc_marked (W := w') o c4) | (at_builtin; refine wpList_append_grows _ rfl _ _ 47 rfl 5 i0 z 1 1 Tryz.underlying47 hi hz0 hz1 hz2 hzs (by decide) _ 3 3 [.int .u8 77, .int .u8 82, .int .u8 75] rfl (fun h => by cases h) rfl (by rintro b ⟨⟩ j u hj; exact Lib.cell?_alloc_marked _ (alloc_row _ _ _ _ j u hj)) _ 5 _ [.int .u8 x0.fElement.toNat, .int .u8 x0.fPart.toNat, .int .u8 x0.fRepeat.toNat, .int .u8 32, .int .u8 x0.fEnd.toNat] rfl rfl (by intro j u hj; exact alloc_row2 _ _ _ _ _ j u hj) (by simp [Value.oneCell']) (by decide) (by decide) (by decide) ?_) | (at_builtin; refine wpList_append_grows _ rfl _ _ 47 rfl 5 i0 z 1 1 Tryz.underlying47 hi hz0 hz1 hz2 hzs (by decide) _ 3 3 [.int .u8 77, .int .u8 82, .int .u8 75] rfl (fun h => by cases h) rfl (by rintro b ⟨⟩ j u hj; exact Lib.cell?_alloc_marked _ (alloc_row _ _ _ _ j u hj)) _ 5 _ [.int .u8 x0.fElement.toNat, .int .u8 x0.fPart.toNat, .int .u8 x0.fRepeat.toNat, .int .u8 x0.fEscape.toNat, .int .u8 x0.fEnd.toNat] rfl rfl (by intro j u hj; exact alloc_row2 _ _ _ _ _ j u hj) (by simp [Value.oneCell']) (by decide) (by decide) (by decide) ?_))
    · intro v' w2 hown hgrow
      have he : ((x0.fEscape.toNat : Int) == 0) = true := by assumption
      rw [if_pos trivial] at hr
      cases hr
      have hW : Below w.heap.size w w' := ((Below.refl _ w).alloc (Nat.le_refl _) _).trans (hB.mono (by rw [hsz]; omega))
      have hle := hW.size
      have hB2 : Below w.heap.size w w2 := ((hW.alloc hle _).alloc (by show _ ≤ (w'.heap.push _).size; rw [Array.size_push]; omega) _).grown hgrow (by show _ ≤ ((w'.heap.push _).push _).size; rw [Array.size_push, Array.size_push]; omega) (by intro k hk; cases hk)
      go_wp2
      go_ret2
      refine ⟨_, rfl, ?_, hB2⟩
      have h5 := esc_t _ he
      simp only [hbytes, h5]
      exact ownsRow_le (show w.heap.size ≤ w'.heap.size + 1 + 1 by omega) hown
    · intro v' w2 hown hgrow
      have he : ((x0.fEscape.toNat : Int) == 0) = false := by assumption
      rw [if_pos trivial] at hr
      cases hr
      have hW : Below w.heap.size w w' := ((Below.refl _ w).alloc (Nat.le_refl _) _).trans (hB.mono (by rw [hsz]; omega))
      have hle := hW.size
      have hB2 : Below w.heap.size w w2 := ((hW.alloc hle _).alloc (by show _ ≤ (w'.heap.push _).size; rw [Array.size_push]; omega) _).grown hgrow (by show _ ≤ ((w'.heap.push _).push _).size; rw [Array.size_push, Array.size_push]; omega) (by intro k hk; cases hk)
      go_wp2
      go_ret2
      refine ⟨_, rfl, ?_, hB2⟩
      have h5 := esc_f _ he
      simp only [hbytes, h5]
      exact ownsRow_le (show w.heap.size ≤ w'.heap.size + 1 + 1 by omega) hown
  · go_enter Tryz.func17, Tryz.ntmps17
    go_wp2_with (go_at_call 38; refine hcon.mono ?_; rintro e w' ⟨v, rfl, hrep, hB⟩; simp only [Rep] at hrep; subst hrep)
    rw [if_neg h0] at hr
    cases hr
    go_ret2
    exact ⟨_, rfl, ⟨rfl, .inl ⟨rfl, rfl⟩⟩, ((Below.refl _ w).alloc (Nat.le_refl _) _).trans (hB.mono (by rw [hsz]; omega))⟩
theorem fspec_wire_Heading (x0 : Tapi_Marks) : ∀ r, m_wire_Heading x0 = some r → FSpec Tryz.prog 17 ([.agg (rTapi_Marks x0)].map .d) (.tup [.own (.sl 5 (List.replicate 1 .sh)) (.slice (List.map rowY r.1)), .d (.int .i64 r.2)]) ([.agg (rTapi_Marks x0)].map .d) := by
  intro r hr
  refine own_spec2 (by kernel_rfl) (by intro r hr; obtain ⟨b, _, rfl⟩ := List.mem_map.1 hr; rfl) (fun w M vs hM hv hg => ?_)
  refine (heading_calls x0 r hr w M vs hM hv hg).mono ?_
  rintro ev w' ⟨v, rfl, ho, hB⟩
  refine ⟨v, _, rfl, by rw [List.length_map]; exact ho, ?_, ?_, hB⟩
  · clear ho hr
    induction r.1 with
    | nil => simp [RepL]
    | cons b l ih => simp only [List.map_cons, List.flatten_cons, rowY, List.cons_append, List.nil_append, RepL, Rep]; exact ⟨_, _, rfl, rfl, ih⟩
  · intro u hu
    obtain ⟨b, _, rfl⟩ := List.mem_map.1 hu
    rfl
theorem spec_wire_Heading (x0 : Tapi_Marks) : ∀ r, m_wire_Heading x0 = some r → PureSpec Tryz.prog 17 [.agg (rTapi_Marks x0)] (.tup [.slice (List.map rowY r.1), .int .i64 r.2]) := fun r hr => (fspec_wire_Heading x0 r hr).pure rfl
end Go.Proofs.YtcnohbiegjahkaaGreatDoor

/-
  A number that is great enough for every recursion of the program that ends (its value is kept from the kernel).
-/
namespace Go.Proofs.YtcnohbiegjahkaaGreatDoor
set_option linter.unusedSimpArgs false
set_option linter.unusedVariables false
theorem FU_ex : ∃ n : Nat, 1000000 ≤ n := ⟨_, Nat.le_refl _⟩
noncomputable def FU : Nat := Classical.choose FU_ex
theorem FU_big : 1000000 ≤ FU := Classical.choose_spec FU_ex
end Go.Proofs.YtcnohbiegjahkaaGreatDoor

/-
  Bodies of functions and what they compute, printed by programs of mine (wip/tool/gen.py, sc.py) out of the translation; the kernel holds each against the translation.
-/
namespace Go.Proofs.YtcnohbiegjahkaaGreatDoor
open Go.RowKit
set_option linter.unusedSimpArgs false
set_option linter.unusedVariables false
structure Tapi_Note where
  fKind : Int
  fSegment : Int
  deriving DecidableEq
def rTapi_Note (x : Tapi_Note) : List DV := [.int .i64 x.fKind, .int .i64 x.fSegment]
attribute [push_cast] rTapi_Note
theorem fT_Tapi_Note {d0 d1 : DV} {v0 : Int} {v1 : Int} (h0 : d0 = .int .i64 v0) (h1 : d1 = .int .i64 v1) : [d0, d1] = rTapi_Note ⟨v0, v1⟩ := by unfold rTapi_Note; simp only [h0, h1, List.cons_append, List.nil_append, List.append_assoc, List.append_nil]
def sc_slices_insertionSortCmpFunc_interchange_api_Note_L1 : SC :=
  (.seq (.seq (.regD (.r 18 (.mv (.t 9)) :: .r 19 (.mv (.t 1)) :: .r 20 (.bin .gtr (.t 18) (.t 19)) :: .r 21 (.mv (.t 20)) :: gapp [22, 23, 24, 25, 26, 27, 28, 29, 30, 31, 32, 33] 21 true (.r 22 (.mv (.t 3)) :: .r 23 (.mv (.t 0)) :: .r 24 (.mv (.t 9)) :: .r 25 (.idx 2 (.t 23) (.t 24)) :: .r 26 (.ldA 2 (.t 25)) :: .r 27 (.mv (.t 0)) :: .r 28 (.mv (.t 9)) :: .r 29 (.bin .sub (.t 28) (.c (.d (.int .i64 1)))) :: .r 30 (.idx 2 (.t 27) (.t 29)) :: .r 31 (.ldA 2 (.t 30)) :: .c 32 (.t 22) [.t 26, .t 31] :: .r 33 (.bin .lss (.t 32) (.c (.d (.int .i64 0)))) :: []) (.r 34 (.pick (.t 21) (.t 33) (.c (.d (.bool false)))) :: [])))
  (.cond (.t 34)
    .skip
    (.exit 2)))
  (.seq (.block 3 (.regE [.r 37 (.mv (.t 0)),
       .r 38 (.mv (.t 9)),
       .r 39 (.mv (.t 0)),
       .r 40 (.mv (.t 9)),
       .r 41 (.bin .sub (.t 40) (.c (.d (.int .i64 1)))),
       .r 42 (.mv (.t 0)),
       .r 43 (.mv (.t 9)),
       .r 44 (.bin .sub (.t 43) (.c (.d (.int .i64 1)))),
       .r 45 (.idx 2 (.t 42) (.t 44)),
       .r 46 (.ldA 2 (.t 45)),
       .r 47 (.mv (.t 0)),
       .r 48 (.mv (.t 9)),
       .r 49 (.idx 2 (.t 47) (.t 48)),
       .r 50 (.ldA 2 (.t 49)),
       .r 51 (.idx 2 (.t 37) (.t 38)),
       .x 0 (.st 2 (.t 51) (.t 46)) [(2, 39, .mv (.t 0)), (3, 40, .mv (.t 9)), (4, 41, .bin .sub (.t 40) (.c (.d (.int .i64 1))))],
       .r 52 (.idx 2 (.t 39) (.t 41)),
       .x 0 (.st 2 (.t 52) (.t 50)) []]))
  (.reg [.r 35 (.mv (.t 9)),
     .r 36 (.bin .sub (.t 35) (.c (.d (.int .i64 1)))),
     .r 9 (.mv (.t 36))])))
def sc_slices_insertionSortCmpFunc_interchange_api_Note_B1 : SC := .block 2 (.loop sc_slices_insertionSortCmpFunc_interchange_api_Note_L1)
def sc_slices_insertionSortCmpFunc_interchange_api_Note_L2 : SC :=
  (.seq (.seq (.reg [.r 12 (.mv (.t 8)),
     .r 13 (.mv (.t 2)),
     .r 14 (.bin .lss (.t 12) (.t 13))])
  (.cond (.t 14)
    .skip
    (.exit 0)))
  (.seq (.block 1 (.seq (.reg [.r 17 (.mv (.t 8)),
       .r 9 (.mv (.t 17))])
    sc_slices_insertionSortCmpFunc_interchange_api_Note_B1))
  (.reg [.r 15 (.mv (.t 8)),
     .r 16 (.bin .add (.t 15) (.c (.d (.int .i64 1)))),
     .r 8 (.mv (.t 16))])))
def sc_slices_insertionSortCmpFunc_interchange_api_Note_B2 : SC := .block 0 (.loop sc_slices_insertionSortCmpFunc_interchange_api_Note_L2)
/-- slices.insertionSortCmpFunc[interchange/api.Note] -/
def sc_slices_insertionSortCmpFunc_interchange_api_Note : SC :=
  (.seq (.reg [.r 10 (.mv (.t 1)),
     .r 11 (.bin .add (.t 10) (.c (.d (.int .i64 1)))),
     .r 8 (.mv (.t 11))])
  sc_slices_insertionSortCmpFunc_interchange_api_Note_B2)
theorem fit_slices_insertionSortCmpFunc_interchange_api_Note : fits Tryz.prog 79 Tryz.f79 sc_slices_insertionSortCmpFunc_interchange_api_Note [] 4 = true := by kernel_rfl

set_option maxRecDepth 100000 in
set_option maxHeartbeats 40000000 in
noncomputable def sims_GS_0_0 : (∀ (x0 : List Tapi_Note) (x1 : Int) (x2 : Int) (f3 : FuncId) (c3 : List DV) (p3 : Tapi_Note → Tapi_Note → Option (Int)) (h3 : ∀ a0 a1 r, p3 a0 a1 = some r → PureSpec Tryz.prog f3 ([.agg (rTapi_Note a0), .agg (rTapi_Note a1)] ++ c3) (.int .i64 r)), {m : Option ((Unit) × (List Tapi_Note)) // ∀ r, m = some r → FSpec Tryz.prog 79 (.own (.sl 29 (List.replicate 2 .sh)) (.slice (List.map rTapi_Note x0)) :: (List.map SV.d ([.int .i64 x1, .int .i64 x2, .fn f3 c3] : List DV))) (.tup []) (.own (.sl 29 (List.replicate 2 .sh)) (.slice (List.map rTapi_Note r.2)) :: (List.map SV.d ([.int .i64 x1, .int .i64 x2, .fn f3 c3] : List DV)))}) := by
  (intro x0 x1 x2 f3 c3 p3 h3; apply Subtype.mk; intro r hm; apply fspec_walkL0 (N := 53) (k := 4) Tryz.func79 fit_slices_insertionSortCmpFunc_interchange_api_Note (by kernel_rfl) rfl (open_sl (row := rTapi_Note) (n := 2) (fun _ => rfl) x0) rfl (by decide); unfold sc_slices_insertionSortCmpFunc_interchange_api_Note)
  repeat' (first | with_reducible refine W_seq ?_ | with_reducible refine W_reg ?_ | with_reducible refine W_regD ?_ | with_reducible refine W_regE ?_ | with_reducible refine W_block ?_ | with_reducible refine W_skip ?_ | with_reducible refine W_exit ?_ | with_reducible refine O_nil ?_ | with_reducible refine K_seq ?_ | with_reducible refine K_seqE ?_ | with_reducible refine K_block ?_ | ((with_reducible apply O_idxVr hm); (iterate 3 (simp only [push_cast, seval]; rfl)); intro e hm) | ((with_reducible apply O_r); (simp only [push_cast, seval]; rfl); (first | exact trivial)) | ((with_reducible apply O_ldAVr hm); (iterate 2 (simp only [push_cast, seval]; rfl)); (intro _; rfl); intro e hm) | ((with_reducible apply O_and hm); (simp only [push_cast, seval]; rfl); rfl; intro v hm; rotate_left; intro v g hm) | ((with_reducible apply O_cvS hm); (iterate 2 (simp only [push_cast, seval]; rfl)); (focus (first | exact h3 _ _)); intro x hm) | ((with_reducible apply O_stVX hm); (iterate 3 (simp only [push_cast, seval]; rfl)); rfl; (intro _; rfl); rfl; (focus (intro a; simp only [push_cast, seval]; rfl)); (focus (intro a; (repeat' (first | rfl)); done)); (focus (intro _; (repeat' (first | exact Rer_nil | ((with_reducible apply Rer_cons); (focus (simp only [push_cast, seval]; rfl)); (focus (first | exact trivial)); (focus (simp only [push_cast, seval]))))); done)); intro e hm) | ((with_reducible apply S_condB hm); (simp only [push_cast, seval]; rfl); intro hm; rotate_left; intro hm) | ((with_reducible apply K_bool hm); (simp only [push_cast, seval]; rfl)) | ((with_reducible apply K_leave hm); intro r hm) | ((apply S_loopY (b := 2) (X := sc_slices_insertionSortCmpFunc_interchange_api_Note_B1) (x := sc_slices_insertionSortCmpFunc_interchange_api_Note_L1) rfl (fun (c : SV × SV × SV × SV × SV × SV × SV) (s : (List Tapi_Note) × Int) => st [(0, .vec 0), (1, c.1), (2, c.2.1), (3, c.2.2.1), (8, c.2.2.2.1), (9, .d (.int .i64 s.2)), (53, .vec 0), (54, c.2.2.2.2.1), (55, c.2.2.2.2.2.1), (56, c.2.2.2.2.2.2)] [(0, .vec 29 2 (vrow rTapi_Note s.1))]) (c := (_, _, _, _, _, _, _)) (s0 := (_, _)) hm); (focus (first | (dsimp only; done))); (with_reducible refine Then.mk ?_ ?_)) | ((apply S_loopY (b := 0) (X := sc_slices_insertionSortCmpFunc_interchange_api_Note_B2) (x := sc_slices_insertionSortCmpFunc_interchange_api_Note_L2) rfl (fun (c : SV × SV × SV × SV × SV × SV) (s : (List Tapi_Note) × Int) => st [(0, .vec 0), (1, c.1), (2, c.2.1), (3, c.2.2.1), (8, .d (.int .i64 s.2)), (53, .vec 0), (54, c.2.2.2.1), (55, c.2.2.2.2.1), (56, c.2.2.2.2.2)] [(0, .vec 29 2 (vrow rTapi_Note s.1))]) (c := (_, _, _, _, _, _)) (s0 := (_, _)) hm); (focus (first | (dsimp only; done))); (with_reducible refine Then.mk ?_ ?_)) | ((apply K_next (s' := (_, _)) hm); (focus (first | (dsimp only; done)))) | ((apply K_brk (s' := (_, _)) hm); (focus (first | (dsimp only; done)))) | (((with_reducible apply K_endLs0N hm (a := ())); (focus (exact Imp.refl _)); (focus (simp only [push_cast, seval]; (try rfl); done)); (focus ((repeat' (first | (with_reducible first | apply r_rfl))); done)); (focus (intro _; rfl)); (focus (simp only [push_cast, seval]; (try rfl); done)); (focus (simp only [push_cast, seval]; (try rfl); done)); (focus (simp only [push_cast, seval]; (try rfl); done)); (focus (simp only [push_cast, seval]; (try rfl); done)); (focus (first | exact he_0)))) | (((with_reducible apply LoopB.of); (focus (first | (dsimp only; done))); (focus ((intro _; repeat' (first | with_reducible exact impC_endF | with_reducible refine impC_seq ?_ | with_reducible refine impC_block ?_ | ((with_reducible refine impC_rnd ?_); intro _) | ((with_reducible refine impC_brk ?_); intro _))))); (intro s o hm; first | unfold sc_slices_insertionSortCmpFunc_interchange_api_Note_L1 | unfold sc_slices_insertionSortCmpFunc_interchange_api_Note_L2); rotate_left; intro s hm)) | (((apply imp_stT; (repeat' (first | with_reducible exact keepT_nil | with_reducible exact keepC_nil | with_reducible apply keepT_cons | with_reducible apply keepC_cons | ((with_reducible apply svle_eq); (focus (first | (simp only [push_cast, seval]; rfl))); (focus ((repeat' (first | rfl)); done))) | ((with_reducible apply chle_eq); (focus (first | (simp only [push_cast, seval]; rfl))); (first | with_reducible exact chle_rfl rfl)))); done))))
noncomputable def m_slices_insertionSortCmpFunc_interchange_api_Note (x0 : List Tapi_Note) (x1 : Int) (x2 : Int) (f3 : FuncId) (c3 : List DV) (p3 : Tapi_Note → Tapi_Note → Option (Int)) (h3 : ∀ a0 a1 r, p3 a0 a1 = some r → PureSpec Tryz.prog f3 ([.agg (rTapi_Note a0), .agg (rTapi_Note a1)] ++ c3) (.int .i64 r)) : Option ((Unit) × (List Tapi_Note)) := (sims_GS_0_0 x0 x1 x2 f3 c3 p3 h3).1
theorem spec_slices_insertionSortCmpFunc_interchange_api_Note (x0 : List Tapi_Note) (x1 : Int) (x2 : Int) (f3 : FuncId) (c3 : List DV) (p3 : Tapi_Note → Tapi_Note → Option (Int)) (h3 : ∀ a0 a1 r, p3 a0 a1 = some r → PureSpec Tryz.prog f3 ([.agg (rTapi_Note a0), .agg (rTapi_Note a1)] ++ c3) (.int .i64 r)) : ∀ r, m_slices_insertionSortCmpFunc_interchange_api_Note x0 x1 x2 f3 c3 p3 h3 = some r → FSpec Tryz.prog 79 (.own (.sl 29 (List.replicate 2 .sh)) (.slice (List.map rTapi_Note x0)) :: (List.map SV.d ([.int .i64 x1, .int .i64 x2, .fn f3 c3] : List DV))) (.tup []) (.own (.sl 29 (List.replicate 2 .sh)) (.slice (List.map rTapi_Note r.2)) :: (List.map SV.d ([.int .i64 x1, .int .i64 x2, .fn f3 c3] : List DV))) := (sims_GS_0_0 x0 x1 x2 f3 c3 p3 h3).2

def sc_slices_swapRangeCmpFunc_interchange_api_Note_L1 : SC :=
  (.seq (.seq (.reg [.r 11 (.mv (.t 10)),
     .r 12 (.mv (.t 3)),
     .r 13 (.bin .lss (.t 11) (.t 12))])
  (.cond (.t 13)
    .skip
    (.exit 0)))
  (.seq (.block 1 (.regE [.r 16 (.mv (.t 0)),
       .r 17 (.mv (.t 1)),
       .r 18 (.mv (.t 10)),
       .r 19 (.bin .add (.t 17) (.t 18)),
       .r 20 (.mv (.t 0)),
       .r 21 (.mv (.t 2)),
       .r 22 (.mv (.t 10)),
       .r 23 (.bin .add (.t 21) (.t 22)),
       .r 24 (.mv (.t 0)),
       .r 25 (.mv (.t 2)),
       .r 26 (.mv (.t 10)),
       .r 27 (.bin .add (.t 25) (.t 26)),
       .r 28 (.idx 2 (.t 24) (.t 27)),
       .r 29 (.ldA 2 (.t 28)),
       .r 30 (.mv (.t 0)),
       .r 31 (.mv (.t 1)),
       .r 32 (.mv (.t 10)),
       .r 33 (.bin .add (.t 31) (.t 32)),
       .r 34 (.idx 2 (.t 30) (.t 33)),
       .r 35 (.ldA 2 (.t 34)),
       .r 36 (.idx 2 (.t 16) (.t 19)),
       .x 0 (.st 2 (.t 36) (.t 29)) [(4, 20, .mv (.t 0)), (5, 21, .mv (.t 2)), (6, 22, .mv (.t 10)), (7, 23, .bin .add (.t 21) (.t 22))],
       .r 37 (.idx 2 (.t 20) (.t 23)),
       .x 0 (.st 2 (.t 37) (.t 35)) []]))
  (.reg [.r 14 (.mv (.t 10)),
     .r 15 (.bin .add (.t 14) (.c (.d (.int .i64 1)))),
     .r 10 (.mv (.t 15))])))
def sc_slices_swapRangeCmpFunc_interchange_api_Note_B1 : SC := .block 0 (.loop sc_slices_swapRangeCmpFunc_interchange_api_Note_L1)
/-- slices.swapRangeCmpFunc[interchange/api.Note] -/
def sc_slices_swapRangeCmpFunc_interchange_api_Note : SC :=
  (.seq (.reg [.r 10 (.mv (.c (.d (.int .i64 0))))])
  sc_slices_swapRangeCmpFunc_interchange_api_Note_B1)
theorem fit_slices_swapRangeCmpFunc_interchange_api_Note : fits Tryz.prog 120 Tryz.f120 sc_slices_swapRangeCmpFunc_interchange_api_Note [] 5 = true := by kernel_rfl

set_option maxRecDepth 100000 in
set_option maxHeartbeats 40000000 in
noncomputable def sims_GS_0_1 : (∀ (x0 : List Tapi_Note) (x1 : Int) (x2 : Int) (x3 : Int) (f4 : FuncId) (c4 : List DV) (p4 : Tapi_Note → Tapi_Note → Option (Int)) (h4 : ∀ a0 a1 r, p4 a0 a1 = some r → PureSpec Tryz.prog f4 ([.agg (rTapi_Note a0), .agg (rTapi_Note a1)] ++ c4) (.int .i64 r)), {m : Option ((Unit) × (List Tapi_Note)) // ∀ r, m = some r → FSpec Tryz.prog 120 (.own (.sl 29 (List.replicate 2 .sh)) (.slice (List.map rTapi_Note x0)) :: (List.map SV.d ([.int .i64 x1, .int .i64 x2, .int .i64 x3, .fn f4 c4] : List DV))) (.tup []) (.own (.sl 29 (List.replicate 2 .sh)) (.slice (List.map rTapi_Note r.2)) :: (List.map SV.d ([.int .i64 x1, .int .i64 x2, .int .i64 x3, .fn f4 c4] : List DV)))}) := by
  (intro x0 x1 x2 x3 f4 c4 p4 h4; apply Subtype.mk; intro r hm; apply fspec_walkL0 (N := 38) (k := 5) Tryz.func120 fit_slices_swapRangeCmpFunc_interchange_api_Note (by kernel_rfl) rfl (open_sl (row := rTapi_Note) (n := 2) (fun _ => rfl) x0) rfl (by decide); unfold sc_slices_swapRangeCmpFunc_interchange_api_Note)
  repeat' (first | with_reducible refine W_seq ?_ | with_reducible refine W_reg ?_ | with_reducible refine W_regE ?_ | with_reducible refine W_block ?_ | with_reducible refine W_skip ?_ | with_reducible refine W_exit ?_ | with_reducible refine O_nil ?_ | with_reducible refine K_seq ?_ | with_reducible refine K_seqE ?_ | with_reducible refine K_block ?_ | ((with_reducible apply O_idxVr hm); (iterate 3 (simp only [push_cast, seval]; rfl)); intro e hm) | ((with_reducible apply O_r); (simp only [push_cast, seval]; rfl); (first | exact trivial)) | ((with_reducible apply O_ldAVr hm); (iterate 2 (simp only [push_cast, seval]; rfl)); (intro _; rfl); intro e hm) | ((with_reducible apply O_stVX hm); (iterate 3 (simp only [push_cast, seval]; rfl)); rfl; (intro _; rfl); rfl; (focus (intro a; simp only [push_cast, seval]; rfl)); (focus (intro a; (repeat' (first | rfl)); done)); (focus (intro _; (repeat' (first | exact Rer_nil | ((with_reducible apply Rer_cons); (focus (simp only [push_cast, seval]; rfl)); (focus (first | exact trivial)); (focus (simp only [push_cast, seval]))))); done)); intro e hm) | ((with_reducible apply S_condB hm); (simp only [push_cast, seval]; rfl); intro hm; rotate_left; intro hm) | ((with_reducible apply K_leave hm); intro r hm) | ((apply S_loopY (b := 0) (X := sc_slices_swapRangeCmpFunc_interchange_api_Note_B1) (x := sc_slices_swapRangeCmpFunc_interchange_api_Note_L1) rfl (fun (c : SV × SV × SV × SV × SV × SV × SV) (s : (List Tapi_Note) × Int) => st [(0, .vec 0), (1, c.1), (2, c.2.1), (3, c.2.2.1), (10, .d (.int .i64 s.2)), (38, .vec 0), (39, c.2.2.2.1), (40, c.2.2.2.2.1), (41, c.2.2.2.2.2.1), (42, c.2.2.2.2.2.2)] [(0, .vec 29 2 (vrow rTapi_Note s.1))]) (c := (_, _, _, _, _, _, _)) (s0 := (_, _)) hm); (focus (first | (dsimp only; done))); (with_reducible refine Then.mk ?_ ?_)) | ((apply K_next (s' := (_, _)) hm); (focus (first | (dsimp only; done)))) | ((apply K_brk (s' := (_, _)) hm); (focus (first | (dsimp only; done)))) | (((with_reducible apply K_endLs0N hm (a := ())); (focus (exact Imp.refl _)); (focus (simp only [push_cast, seval]; (try rfl); done)); (focus ((repeat' (first | (with_reducible first | apply r_rfl))); done)); (focus (intro _; rfl)); (focus (simp only [push_cast, seval]; (try rfl); done)); (focus (simp only [push_cast, seval]; (try rfl); done)); (focus (simp only [push_cast, seval]; (try rfl); done)); (focus (simp only [push_cast, seval]; (try rfl); done)); (focus (first | exact he_0)))) | (((with_reducible apply LoopB.of); (focus (first | (dsimp only; done))); (focus ((intro _; repeat' (first | with_reducible exact impC_endF)))); (intro s o hm; first | unfold sc_slices_swapRangeCmpFunc_interchange_api_Note_L1); rotate_left; intro s hm)) | (((apply imp_stT; (repeat' (first | with_reducible exact keepT_nil | with_reducible exact keepC_nil | with_reducible apply keepT_cons | with_reducible apply keepC_cons | ((with_reducible apply svle_eq); (focus (first | (simp only [push_cast, seval]; rfl))); (focus ((repeat' (first | rfl)); done))) | ((with_reducible apply chle_eq); (focus (first | (simp only [push_cast, seval]; rfl))); (first | with_reducible exact chle_rfl rfl)))); done))))
noncomputable def m_slices_swapRangeCmpFunc_interchange_api_Note (x0 : List Tapi_Note) (x1 : Int) (x2 : Int) (x3 : Int) (f4 : FuncId) (c4 : List DV) (p4 : Tapi_Note → Tapi_Note → Option (Int)) (h4 : ∀ a0 a1 r, p4 a0 a1 = some r → PureSpec Tryz.prog f4 ([.agg (rTapi_Note a0), .agg (rTapi_Note a1)] ++ c4) (.int .i64 r)) : Option ((Unit) × (List Tapi_Note)) := (sims_GS_0_1 x0 x1 x2 x3 f4 c4 p4 h4).1
theorem spec_slices_swapRangeCmpFunc_interchange_api_Note (x0 : List Tapi_Note) (x1 : Int) (x2 : Int) (x3 : Int) (f4 : FuncId) (c4 : List DV) (p4 : Tapi_Note → Tapi_Note → Option (Int)) (h4 : ∀ a0 a1 r, p4 a0 a1 = some r → PureSpec Tryz.prog f4 ([.agg (rTapi_Note a0), .agg (rTapi_Note a1)] ++ c4) (.int .i64 r)) : ∀ r, m_slices_swapRangeCmpFunc_interchange_api_Note x0 x1 x2 x3 f4 c4 p4 h4 = some r → FSpec Tryz.prog 120 (.own (.sl 29 (List.replicate 2 .sh)) (.slice (List.map rTapi_Note x0)) :: (List.map SV.d ([.int .i64 x1, .int .i64 x2, .int .i64 x3, .fn f4 c4] : List DV))) (.tup []) (.own (.sl 29 (List.replicate 2 .sh)) (.slice (List.map rTapi_Note r.2)) :: (List.map SV.d ([.int .i64 x1, .int .i64 x2, .int .i64 x3, .fn f4 c4] : List DV))) := (sims_GS_0_1 x0 x1 x2 x3 f4 c4 p4 h4).2

def sc_slices_rotateCmpFunc_interchange_api_Note_L1 : SC :=
  (.seq (.seq (.reg [.r 18 (.mv (.t 10)),
     .r 19 (.mv (.t 11)),
     .r 20 (.bin .neq (.t 18) (.t 19))])
  (.cond (.t 20)
    .skip
    (.exit 0)))
  (.block 1 (.seq (.reg [.r 21 (.mv (.t 10)),
       .r 22 (.mv (.t 11)),
       .r 23 (.bin .gtr (.t 21) (.t 22))])
    (.cond (.t 23)
      (.seq (.reg [.r 24 (.mv (.t 0)),
         .r 25 (.mv (.t 2)),
         .r 26 (.mv (.t 10)),
         .r 27 (.bin .sub (.t 25) (.t 26)),
         .r 28 (.mv (.t 2)),
         .r 29 (.mv (.t 11)),
         .r 30 (.mv (.t 4)),
         .p (some 31) (.f 120) [.t 24, .t 27, .t 28, .t 29, .t 30]])
      (.reg [.r 32 (.mv (.t 10)),
         .r 33 (.mv (.t 11)),
         .r 34 (.bin .sub (.t 32) (.t 33)),
         .r 10 (.mv (.t 34))]))
      (.seq (.reg [.r 35 (.mv (.t 0)),
         .r 36 (.mv (.t 2)),
         .r 37 (.mv (.t 10)),
         .r 38 (.bin .sub (.t 36) (.t 37)),
         .r 39 (.mv (.t 2)),
         .r 40 (.mv (.t 11)),
         .r 41 (.bin .add (.t 39) (.t 40)),
         .r 42 (.mv (.t 10)),
         .r 43 (.bin .sub (.t 41) (.t 42)),
         .r 44 (.mv (.t 10)),
         .r 45 (.mv (.t 4)),
         .p (some 46) (.f 120) [.t 35, .t 38, .t 43, .t 44, .t 45]])
      (.reg [.r 47 (.mv (.t 11)),
         .r 48 (.mv (.t 10)),
         .r 49 (.bin .sub (.t 47) (.t 48)),
         .r 11 (.mv (.t 49))]))))))
def sc_slices_rotateCmpFunc_interchange_api_Note_B1 : SC := .block 0 (.loop sc_slices_rotateCmpFunc_interchange_api_Note_L1)
/-- slices.rotateCmpFunc[interchange/api.Note] -/
def sc_slices_rotateCmpFunc_interchange_api_Note : SC :=
  (.seq (.reg [.r 12 (.mv (.t 2)),
     .r 13 (.mv (.t 1)),
     .r 14 (.bin .sub (.t 12) (.t 13)),
     .r 10 (.mv (.t 14))])
  (.seq (.reg [.r 15 (.mv (.t 3)),
     .r 16 (.mv (.t 2)),
     .r 17 (.bin .sub (.t 15) (.t 16)),
     .r 11 (.mv (.t 17))])
  (.seq sc_slices_rotateCmpFunc_interchange_api_Note_B1
  (.reg [.r 50 (.mv (.t 0)),
     .r 51 (.mv (.t 2)),
     .r 52 (.mv (.t 10)),
     .r 53 (.bin .sub (.t 51) (.t 52)),
     .r 54 (.mv (.t 2)),
     .r 55 (.mv (.t 10)),
     .r 56 (.mv (.t 4)),
     .p (some 57) (.f 120) [.t 50, .t 53, .t 54, .t 55, .t 56]]))))
theorem fit_slices_rotateCmpFunc_interchange_api_Note : fits Tryz.prog 104 Tryz.f104 sc_slices_rotateCmpFunc_interchange_api_Note [] 5 = true := by kernel_rfl

set_option maxRecDepth 100000 in
set_option maxHeartbeats 40000000 in
noncomputable def sims_GS_1_0 : (∀ (x0 : List Tapi_Note) (x1 : Int) (x2 : Int) (x3 : Int) (f4 : FuncId) (c4 : List DV) (p4 : Tapi_Note → Tapi_Note → Option (Int)) (h4 : ∀ a0 a1 r, p4 a0 a1 = some r → PureSpec Tryz.prog f4 ([.agg (rTapi_Note a0), .agg (rTapi_Note a1)] ++ c4) (.int .i64 r)), {m : Option ((Unit) × (List Tapi_Note)) // ∀ r, m = some r → FSpec Tryz.prog 104 (.own (.sl 29 (List.replicate 2 .sh)) (.slice (List.map rTapi_Note x0)) :: (List.map SV.d ([.int .i64 x1, .int .i64 x2, .int .i64 x3, .fn f4 c4] : List DV))) (.tup []) (.own (.sl 29 (List.replicate 2 .sh)) (.slice (List.map rTapi_Note r.2)) :: (List.map SV.d ([.int .i64 x1, .int .i64 x2, .int .i64 x3, .fn f4 c4] : List DV)))}) := by
  (intro x0 x1 x2 x3 f4 c4 p4 h4; apply Subtype.mk; intro r hm; apply fspec_walkL0 (N := 58) (k := 5) Tryz.func104 fit_slices_rotateCmpFunc_interchange_api_Note (by kernel_rfl) rfl (open_sl (row := rTapi_Note) (n := 2) (fun _ => rfl) x0) rfl (by decide); unfold sc_slices_rotateCmpFunc_interchange_api_Note)
  repeat' (first | with_reducible refine W_seq ?_ | with_reducible refine W_reg ?_ | with_reducible refine W_block ?_ | with_reducible refine W_skip ?_ | with_reducible refine W_exit ?_ | with_reducible refine O_nil ?_ | with_reducible refine K_seq ?_ | with_reducible refine K_seqE ?_ | with_reducible refine K_block ?_ | ((with_reducible apply O_r); (simp only [push_cast, seval]; rfl); (first | exact trivial)) | ((with_reducible apply S_condB hm); (simp only [push_cast, seval]; rfl); intro hm; rotate_left; intro hm) | ((with_reducible apply K_leave hm); intro r hm) | ((apply S_loopY (b := 0) (X := sc_slices_rotateCmpFunc_interchange_api_Note_B1) (x := sc_slices_rotateCmpFunc_interchange_api_Note_L1) rfl (fun (c : SV × SV × SV × SV × SV × SV) (s : (List Tapi_Note) × Int × Int) => st [(0, .vec 0), (2, c.1), (4, c.2.1), (10, .d (.int .i64 s.2.1)), (11, .d (.int .i64 s.2.2)), (58, .vec 0), (59, c.2.2.1), (60, c.2.2.2.1), (61, c.2.2.2.2.1), (62, c.2.2.2.2.2)] [(0, .vec 29 2 (vrow rTapi_Note s.1))]) (c := (_, _, _, _, _, _)) (s0 := (_, _, _)) hm); (focus (first | (dsimp only; done))); (with_reducible refine Then.mk ?_ ?_)) | ((apply K_next (s' := (_, _, _)) hm); (focus (first | (dsimp only; done)))) | ((apply K_brk (s' := (_, _, _)) hm); (focus (first | (dsimp only; done)))) | (((with_reducible apply O_pLs0 hm); (focus (simp only [push_cast, seval]; (try rfl); done)); (focus (simp only [push_cast, seval]; (try rfl); done)); (focus (simp only [push_cast, seval]; (try rfl); done)); (focus (intro _; rfl)); (focus (first | apply spec_slices_swapRangeCmpFunc_interchange_api_Note _ _ _ _ _ _ _ h4)); (any_goals (focus ((repeat' (first | rfl)); done))); (focus (intro _; exact ⟨rfl, rfl⟩)); intro y hm)) | (((with_reducible apply K_endLs0N hm (a := ())); (focus (exact Imp.refl _)); (focus (simp only [push_cast, seval]; (try rfl); done)); (focus ((repeat' (first | (with_reducible first | apply r_rfl))); done)); (focus (intro _; rfl)); (focus (simp only [push_cast, seval]; (try rfl); done)); (focus (simp only [push_cast, seval]; (try rfl); done)); (focus (simp only [push_cast, seval]; (try rfl); done)); (focus (simp only [push_cast, seval]; (try rfl); done)); (focus (first | exact he_0)))) | (((with_reducible apply LoopB.of); (focus (first | (dsimp only; done))); (focus ((intro _; repeat' (first | with_reducible exact impC_endF | with_reducible refine impC_seq ?_)))); (intro s o hm; first | unfold sc_slices_rotateCmpFunc_interchange_api_Note_L1); rotate_left; intro s hm)) | (((apply imp_stT; (repeat' (first | with_reducible exact keepT_nil | with_reducible exact keepC_nil | with_reducible apply keepT_cons | with_reducible apply keepC_cons | ((with_reducible apply svle_eq); (focus (first | (simp only [push_cast, seval]; rfl))); (focus ((repeat' (first | rfl)); done))) | ((with_reducible apply chle_eq); (focus (first | (simp only [push_cast, seval]; rfl))); (first | with_reducible exact chle_rfl rfl)))); done))))
noncomputable def m_slices_rotateCmpFunc_interchange_api_Note (x0 : List Tapi_Note) (x1 : Int) (x2 : Int) (x3 : Int) (f4 : FuncId) (c4 : List DV) (p4 : Tapi_Note → Tapi_Note → Option (Int)) (h4 : ∀ a0 a1 r, p4 a0 a1 = some r → PureSpec Tryz.prog f4 ([.agg (rTapi_Note a0), .agg (rTapi_Note a1)] ++ c4) (.int .i64 r)) : Option ((Unit) × (List Tapi_Note)) := (sims_GS_1_0 x0 x1 x2 x3 f4 c4 p4 h4).1
theorem spec_slices_rotateCmpFunc_interchange_api_Note (x0 : List Tapi_Note) (x1 : Int) (x2 : Int) (x3 : Int) (f4 : FuncId) (c4 : List DV) (p4 : Tapi_Note → Tapi_Note → Option (Int)) (h4 : ∀ a0 a1 r, p4 a0 a1 = some r → PureSpec Tryz.prog f4 ([.agg (rTapi_Note a0), .agg (rTapi_Note a1)] ++ c4) (.int .i64 r)) : ∀ r, m_slices_rotateCmpFunc_interchange_api_Note x0 x1 x2 x3 f4 c4 p4 h4 = some r → FSpec Tryz.prog 104 (.own (.sl 29 (List.replicate 2 .sh)) (.slice (List.map rTapi_Note x0)) :: (List.map SV.d ([.int .i64 x1, .int .i64 x2, .int .i64 x3, .fn f4 c4] : List DV))) (.tup []) (.own (.sl 29 (List.replicate 2 .sh)) (.slice (List.map rTapi_Note r.2)) :: (List.map SV.d ([.int .i64 x1, .int .i64 x2, .int .i64 x3, .fn f4 c4] : List DV))) := (sims_GS_1_0 x0 x1 x2 x3 f4 c4 p4 h4).2

def sc_slices_symMergeCmpFunc_interchange_api_Note_L1 : SC :=
  (.seq (.seq (.reg [.r 31 (.mv (.t 10)),
     .r 32 (.mv (.t 11)),
     .r 33 (.bin .lss (.t 31) (.t 32))])
  (.cond (.t 33)
    .skip
    (.exit 0)))
  (.block 1 (.seq (.reg [.r 34 (.mv (.t 10)),
       .r 35 (.mv (.t 11)),
       .r 36 (.bin .add (.t 34) (.t 35)),
       .r 37 (.cvi .u64 (.t 36)),
       .r 38 (.bin .shr (.t 37) (.c (.d (.int .u64 1)))),
       .r 39 (.cvi .i64 (.t 38)),
       .r 12 (.mv (.t 39))])
    (.seq (.regD [.r 40 (.mv (.t 4)),
       .r 41 (.mv (.t 0)),
       .r 42 (.mv (.t 12)),
       .r 43 (.idx 2 (.t 41) (.t 42)),
       .r 44 (.ldA 2 (.t 43)),
       .r 45 (.mv (.t 0)),
       .r 46 (.mv (.t 1)),
       .r 47 (.idx 2 (.t 45) (.t 46)),
       .r 48 (.ldA 2 (.t 47)),
       .c 49 (.t 40) [.t 44, .t 48],
       .r 50 (.bin .lss (.t 49) (.c (.d (.int .i64 0))))])
    (.cond (.t 50)
      (.reg [.r 51 (.mv (.t 12)),
         .r 52 (.bin .add (.t 51) (.c (.d (.int .i64 1)))),
         .r 10 (.mv (.t 52))])
      (.reg [.r 53 (.mv (.t 12)),
         .r 11 (.mv (.t 53))]))))))
def sc_slices_symMergeCmpFunc_interchange_api_Note_B1 : SC := .block 0 (.loop sc_slices_symMergeCmpFunc_interchange_api_Note_L1)
def sc_slices_symMergeCmpFunc_interchange_api_Note_L2 : SC :=
  (.seq (.seq (.reg [.r 55 (.mv (.t 13)),
     .r 56 (.mv (.t 10)),
     .r 57 (.bin .sub (.t 56) (.c (.d (.int .i64 1)))),
     .r 58 (.bin .lss (.t 55) (.t 57))])
  (.cond (.t 58)
    .skip
    (.exit 2)))
  (.seq (.block 3 (.regE [.r 61 (.mv (.t 0)),
       .r 62 (.mv (.t 13)),
       .r 63 (.mv (.t 0)),
       .r 64 (.mv (.t 13)),
       .r 65 (.bin .add (.t 64) (.c (.d (.int .i64 1)))),
       .r 66 (.mv (.t 0)),
       .r 67 (.mv (.t 13)),
       .r 68 (.bin .add (.t 67) (.c (.d (.int .i64 1)))),
       .r 69 (.idx 2 (.t 66) (.t 68)),
       .r 70 (.ldA 2 (.t 69)),
       .r 71 (.mv (.t 0)),
       .r 72 (.mv (.t 13)),
       .r 73 (.idx 2 (.t 71) (.t 72)),
       .r 74 (.ldA 2 (.t 73)),
       .r 75 (.idx 2 (.t 61) (.t 62)),
       .x 0 (.st 2 (.t 75) (.t 70)) [(2, 63, .mv (.t 0)), (3, 64, .mv (.t 13)), (4, 65, .bin .add (.t 64) (.c (.d (.int .i64 1))))],
       .r 76 (.idx 2 (.t 63) (.t 65)),
       .x 0 (.st 2 (.t 76) (.t 74)) []]))
  (.reg [.r 59 (.mv (.t 13)),
     .r 60 (.bin .add (.t 59) (.c (.d (.int .i64 1)))),
     .r 13 (.mv (.t 60))])))
def sc_slices_symMergeCmpFunc_interchange_api_Note_B2 : SC := .block 2 (.loop sc_slices_symMergeCmpFunc_interchange_api_Note_L2)
def sc_slices_symMergeCmpFunc_interchange_api_Note_L3 : SC :=
  (.seq (.seq (.reg [.r 83 (.mv (.t 14)),
     .r 84 (.mv (.t 15)),
     .r 85 (.bin .lss (.t 83) (.t 84))])
  (.cond (.t 85)
    .skip
    (.exit 4)))
  (.block 5 (.seq (.reg [.r 86 (.mv (.t 14)),
       .r 87 (.mv (.t 15)),
       .r 88 (.bin .add (.t 86) (.t 87)),
       .r 89 (.cvi .u64 (.t 88)),
       .r 90 (.bin .shr (.t 89) (.c (.d (.int .u64 1)))),
       .r 91 (.cvi .i64 (.t 90)),
       .r 16 (.mv (.t 91))])
    (.seq (.regD [.r 92 (.mv (.t 4)),
       .r 93 (.mv (.t 0)),
       .r 94 (.mv (.t 2)),
       .r 95 (.idx 2 (.t 93) (.t 94)),
       .r 96 (.ldA 2 (.t 95)),
       .r 97 (.mv (.t 0)),
       .r 98 (.mv (.t 16)),
       .r 99 (.idx 2 (.t 97) (.t 98)),
       .r 100 (.ldA 2 (.t 99)),
       .c 101 (.t 92) [.t 96, .t 100],
       .r 102 (.bin .lss (.t 101) (.c (.d (.int .i64 0)))),
       .r 103 (.not (.t 102))])
    (.cond (.t 103)
      (.reg [.r 104 (.mv (.t 16)),
         .r 105 (.bin .add (.t 104) (.c (.d (.int .i64 1)))),
         .r 14 (.mv (.t 105))])
      (.reg [.r 106 (.mv (.t 16)),
         .r 15 (.mv (.t 106))]))))))
def sc_slices_symMergeCmpFunc_interchange_api_Note_B3 : SC := .block 4 (.loop sc_slices_symMergeCmpFunc_interchange_api_Note_L3)
def sc_slices_symMergeCmpFunc_interchange_api_Note_L4 : SC :=
  (.seq (.seq (.reg [.r 108 (.mv (.t 17)),
     .r 109 (.mv (.t 14)),
     .r 110 (.bin .gtr (.t 108) (.t 109))])
  (.cond (.t 110)
    .skip
    (.exit 6)))
  (.seq (.block 7 (.regE [.r 113 (.mv (.t 0)),
       .r 114 (.mv (.t 17)),
       .r 115 (.mv (.t 0)),
       .r 116 (.mv (.t 17)),
       .r 117 (.bin .sub (.t 116) (.c (.d (.int .i64 1)))),
       .r 118 (.mv (.t 0)),
       .r 119 (.mv (.t 17)),
       .r 120 (.bin .sub (.t 119) (.c (.d (.int .i64 1)))),
       .r 121 (.idx 2 (.t 118) (.t 120)),
       .r 122 (.ldA 2 (.t 121)),
       .r 123 (.mv (.t 0)),
       .r 124 (.mv (.t 17)),
       .r 125 (.idx 2 (.t 123) (.t 124)),
       .r 126 (.ldA 2 (.t 125)),
       .r 127 (.idx 2 (.t 113) (.t 114)),
       .x 0 (.st 2 (.t 127) (.t 122)) [(2, 115, .mv (.t 0)), (3, 116, .mv (.t 17)), (4, 117, .bin .sub (.t 116) (.c (.d (.int .i64 1))))],
       .r 128 (.idx 2 (.t 115) (.t 117)),
       .x 0 (.st 2 (.t 128) (.t 126)) []]))
  (.reg [.r 111 (.mv (.t 17)),
     .r 112 (.bin .sub (.t 111) (.c (.d (.int .i64 1)))),
     .r 17 (.mv (.t 112))])))
def sc_slices_symMergeCmpFunc_interchange_api_Note_B4 : SC := .block 6 (.loop sc_slices_symMergeCmpFunc_interchange_api_Note_L4)
def sc_slices_symMergeCmpFunc_interchange_api_Note_L5 : SC :=
  (.seq (.seq (.reg [.r 149 (.mv (.t 20)),
     .r 150 (.mv (.t 21)),
     .r 151 (.bin .lss (.t 149) (.t 150))])
  (.cond (.t 151)
    .skip
    (.exit 8)))
  (.block 9 (.seq (.reg [.r 152 (.mv (.t 20)),
       .r 153 (.mv (.t 21)),
       .r 154 (.bin .add (.t 152) (.t 153)),
       .r 155 (.cvi .u64 (.t 154)),
       .r 156 (.bin .shr (.t 155) (.c (.d (.int .u64 1)))),
       .r 157 (.cvi .i64 (.t 156)),
       .r 23 (.mv (.t 157))])
    (.seq (.regD [.r 158 (.mv (.t 4)),
       .r 159 (.mv (.t 0)),
       .r 160 (.mv (.t 22)),
       .r 161 (.mv (.t 23)),
       .r 162 (.bin .sub (.t 160) (.t 161)),
       .r 163 (.idx 2 (.t 159) (.t 162)),
       .r 164 (.ldA 2 (.t 163)),
       .r 165 (.mv (.t 0)),
       .r 166 (.mv (.t 23)),
       .r 167 (.idx 2 (.t 165) (.t 166)),
       .r 168 (.ldA 2 (.t 167)),
       .c 169 (.t 158) [.t 164, .t 168],
       .r 170 (.bin .lss (.t 169) (.c (.d (.int .i64 0)))),
       .r 171 (.not (.t 170))])
    (.cond (.t 171)
      (.reg [.r 172 (.mv (.t 23)),
         .r 173 (.bin .add (.t 172) (.c (.d (.int .i64 1)))),
         .r 20 (.mv (.t 173))])
      (.reg [.r 174 (.mv (.t 23)),
         .r 21 (.mv (.t 174))]))))))
def sc_slices_symMergeCmpFunc_interchange_api_Note_B5 : SC := .block 8 (.loop sc_slices_symMergeCmpFunc_interchange_api_Note_L5)
/-- slices.symMergeCmpFunc[interchange/api.Note] -/
def sc_slices_symMergeCmpFunc_interchange_api_Note : SC :=
  (.seq (.seq (.reg [.r 25 (.mv (.t 2)),
     .r 26 (.mv (.t 1)),
     .r 27 (.bin .sub (.t 25) (.t 26)),
     .r 28 (.bin .eql (.t 27) (.c (.d (.int .i64 1))))])
  (.cond (.t 28)
    (.seq (.reg [.r 29 (.mv (.t 2)),
       .r 10 (.mv (.t 29))])
    (.seq (.reg [.r 30 (.mv (.t 3)),
       .r 11 (.mv (.t 30))])
    (.seq sc_slices_symMergeCmpFunc_interchange_api_Note_B1
    (.seq (.seq (.reg [.r 54 (.mv (.t 1)),
       .r 13 (.mv (.t 54))])
    sc_slices_symMergeCmpFunc_interchange_api_Note_B2)
    .ret))))
    .skip))
  (.seq (.seq (.reg [.r 77 (.mv (.t 3)),
     .r 78 (.mv (.t 2)),
     .r 79 (.bin .sub (.t 77) (.t 78)),
     .r 80 (.bin .eql (.t 79) (.c (.d (.int .i64 1))))])
  (.cond (.t 80)
    (.seq (.reg [.r 81 (.mv (.t 1)),
       .r 14 (.mv (.t 81))])
    (.seq (.reg [.r 82 (.mv (.t 2)),
       .r 15 (.mv (.t 82))])
    (.seq sc_slices_symMergeCmpFunc_interchange_api_Note_B3
    (.seq (.seq (.reg [.r 107 (.mv (.t 2)),
       .r 17 (.mv (.t 107))])
    sc_slices_symMergeCmpFunc_interchange_api_Note_B4)
    .ret))))
    .skip))
  (.seq (.reg [.r 129 (.mv (.t 1)),
     .r 130 (.mv (.t 3)),
     .r 131 (.bin .add (.t 129) (.t 130)),
     .r 132 (.cvi .u64 (.t 131)),
     .r 133 (.bin .shr (.t 132) (.c (.d (.int .u64 1)))),
     .r 134 (.cvi .i64 (.t 133)),
     .r 18 (.mv (.t 134))])
  (.seq (.reg [.r 135 (.mv (.t 18)),
     .r 136 (.mv (.t 2)),
     .r 137 (.bin .add (.t 135) (.t 136)),
     .r 19 (.mv (.t 137))])
  (.seq (.reg [.r 20 (.mv (.c (.d (.int .i64 0)))),
     .r 21 (.mv (.c (.d (.int .i64 0))))])
  (.seq (.seq (.reg [.r 138 (.mv (.t 2)),
     .r 139 (.mv (.t 18)),
     .r 140 (.bin .gtr (.t 138) (.t 139))])
  (.cond (.t 140)
    (.seq (.reg [.r 141 (.mv (.t 19)),
       .r 142 (.mv (.t 3)),
       .r 143 (.bin .sub (.t 141) (.t 142)),
       .r 20 (.mv (.t 143))])
    (.reg [.r 144 (.mv (.t 18)),
       .r 21 (.mv (.t 144))]))
    (.seq (.reg [.r 145 (.mv (.t 1)),
       .r 20 (.mv (.t 145))])
    (.reg [.r 146 (.mv (.t 2)),
       .r 21 (.mv (.t 146))]))))
  (.seq (.reg [.r 147 (.mv (.t 19)),
     .r 148 (.bin .sub (.t 147) (.c (.d (.int .i64 1)))),
     .r 22 (.mv (.t 148))])
  (.seq sc_slices_symMergeCmpFunc_interchange_api_Note_B5
  (.seq (.reg [.r 175 (.mv (.t 19)),
     .r 176 (.mv (.t 20)),
     .r 177 (.bin .sub (.t 175) (.t 176)),
     .r 24 (.mv (.t 177))])
  (.seq (.seq (.reg (.r 178 (.mv (.t 20)) :: .r 179 (.mv (.t 2)) :: .r 180 (.bin .lss (.t 178) (.t 179)) :: .r 181 (.mv (.t 180)) :: gapp [182, 183, 184] 181 true (.r 182 (.mv (.t 2)) :: .r 183 (.mv (.t 24)) :: .r 184 (.bin .lss (.t 182) (.t 183)) :: []) (.r 185 (.pick (.t 181) (.t 184) (.c (.d (.bool false)))) :: [])))
  (.cond (.t 185)
    (.reg [.r 186 (.mv (.t 0)),
       .r 187 (.mv (.t 20)),
       .r 188 (.mv (.t 2)),
       .r 189 (.mv (.t 24)),
       .r 190 (.mv (.t 4)),
       .p (some 191) (.f 104) [.t 186, .t 187, .t 188, .t 189, .t 190]])
    .skip))
  (.seq (.seq (.reg (.r 192 (.mv (.t 1)) :: .r 193 (.mv (.t 20)) :: .r 194 (.bin .lss (.t 192) (.t 193)) :: .r 195 (.mv (.t 194)) :: gapp [196, 197, 198] 195 true (.r 196 (.mv (.t 20)) :: .r 197 (.mv (.t 18)) :: .r 198 (.bin .lss (.t 196) (.t 197)) :: []) (.r 199 (.pick (.t 195) (.t 198) (.c (.d (.bool false)))) :: [])))
  (.cond (.t 199)
    (.reg [.r 200 (.mv (.t 0)),
       .r 201 (.mv (.t 1)),
       .r 202 (.mv (.t 20)),
       .r 203 (.mv (.t 18)),
       .r 204 (.mv (.t 4)),
       .p (some 205) (.f 80) [.t 200, .t 201, .t 202, .t 203, .t 204]])
    .skip))
  (.seq (.reg (.r 206 (.mv (.t 18)) :: .r 207 (.mv (.t 24)) :: .r 208 (.bin .lss (.t 206) (.t 207)) :: .r 209 (.mv (.t 208)) :: gapp [210, 211, 212] 209 true (.r 210 (.mv (.t 24)) :: .r 211 (.mv (.t 3)) :: .r 212 (.bin .lss (.t 210) (.t 211)) :: []) (.r 213 (.pick (.t 209) (.t 212) (.c (.d (.bool false)))) :: [])))
  (.cond (.t 213)
    (.reg [.r 214 (.mv (.t 0)),
       .r 215 (.mv (.t 18)),
       .r 216 (.mv (.t 24)),
       .r 217 (.mv (.t 3)),
       .r 218 (.mv (.t 4)),
       .p (some 219) (.f 80) [.t 214, .t 215, .t 216, .t 217, .t 218]])
    .skip)))))))))))))
theorem fit_slices_symMergeCmpFunc_interchange_api_Note : fits Tryz.prog 80 Tryz.f80 sc_slices_symMergeCmpFunc_interchange_api_Note [] 5 = true := by kernel_rfl

set_option maxRecDepth 100000 in
set_option maxHeartbeats 40000000 in
noncomputable def step_GS_2_0 : ((∀ (x0 : List Tapi_Note) (x1 : Int) (x2 : Int) (x3 : Int) (f4 : FuncId) (c4 : List DV) (p4 : Tapi_Note → Tapi_Note → Option (Int)) (h4 : ∀ a0 a1 r, p4 a0 a1 = some r → PureSpec Tryz.prog f4 ([.agg (rTapi_Note a0), .agg (rTapi_Note a1)] ++ c4) (.int .i64 r)), {m : Option ((Unit) × (List Tapi_Note)) // ∀ r, m = some r → FSpec Tryz.prog 80 (.own (.sl 29 (List.replicate 2 .sh)) (.slice (List.map rTapi_Note x0)) :: (List.map SV.d ([.int .i64 x1, .int .i64 x2, .int .i64 x3, .fn f4 c4] : List DV))) (.tup []) (.own (.sl 29 (List.replicate 2 .sh)) (.slice (List.map rTapi_Note r.2)) :: (List.map SV.d ([.int .i64 x1, .int .i64 x2, .int .i64 x3, .fn f4 c4] : List DV)))})) → ((∀ (x0 : List Tapi_Note) (x1 : Int) (x2 : Int) (x3 : Int) (f4 : FuncId) (c4 : List DV) (p4 : Tapi_Note → Tapi_Note → Option (Int)) (h4 : ∀ a0 a1 r, p4 a0 a1 = some r → PureSpec Tryz.prog f4 ([.agg (rTapi_Note a0), .agg (rTapi_Note a1)] ++ c4) (.int .i64 r)), {m : Option ((Unit) × (List Tapi_Note)) // ∀ r, m = some r → FSpec Tryz.prog 80 (.own (.sl 29 (List.replicate 2 .sh)) (.slice (List.map rTapi_Note x0)) :: (List.map SV.d ([.int .i64 x1, .int .i64 x2, .int .i64 x3, .fn f4 c4] : List DV))) (.tup []) (.own (.sl 29 (List.replicate 2 .sh)) (.slice (List.map rTapi_Note r.2)) :: (List.map SV.d ([.int .i64 x1, .int .i64 x2, .int .i64 x3, .fn f4 c4] : List DV)))})) := by
  intro ih
  have spec_slices_symMergeCmpFunc_interchange_api_Note : ∀ (x0 : List Tapi_Note) (x1 : Int) (x2 : Int) (x3 : Int) (f4 : FuncId) (c4 : List DV) (p4 : Tapi_Note → Tapi_Note → Option (Int)) (h4 : ∀ a0 a1 r, p4 a0 a1 = some r → PureSpec Tryz.prog f4 ([.agg (rTapi_Note a0), .agg (rTapi_Note a1)] ++ c4) (.int .i64 r)), ∀ r, (ih x0 x1 x2 x3 f4 c4 p4 h4).1 = some r → FSpec Tryz.prog 80 (.own (.sl 29 (List.replicate 2 .sh)) (.slice (List.map rTapi_Note x0)) :: (List.map SV.d ([.int .i64 x1, .int .i64 x2, .int .i64 x3, .fn f4 c4] : List DV))) (.tup []) (.own (.sl 29 (List.replicate 2 .sh)) (.slice (List.map rTapi_Note r.2)) :: (List.map SV.d ([.int .i64 x1, .int .i64 x2, .int .i64 x3, .fn f4 c4] : List DV))) := fun x0 x1 x2 x3 f4 c4 p4 h4 => (ih x0 x1 x2 x3 f4 c4 p4 h4).2
  (intro x0 x1 x2 x3 f4 c4 p4 h4; apply Subtype.mk; intro r hm; apply fspec_walkL0 (N := 220) (k := 5) Tryz.func80 fit_slices_symMergeCmpFunc_interchange_api_Note (by kernel_rfl) rfl (open_sl (row := rTapi_Note) (n := 2) (fun _ => rfl) x0) rfl (by decide); unfold sc_slices_symMergeCmpFunc_interchange_api_Note)
  repeat' (first | with_reducible refine W_seq ?_ | with_reducible refine W_reg ?_ | with_reducible refine W_regD ?_ | with_reducible refine W_regE ?_ | with_reducible refine W_block ?_ | with_reducible refine W_skip ?_ | with_reducible refine W_ret ?_ | with_reducible refine W_exit ?_ | with_reducible refine O_nil ?_ | with_reducible refine K_seq ?_ | with_reducible refine K_seqE ?_ | with_reducible refine K_seqR ?_ | with_reducible refine K_block ?_ | ((with_reducible apply O_idxVr hm); (iterate 3 (simp only [push_cast, seval]; rfl)); intro e hm) | ((with_reducible apply O_r); (simp only [push_cast, seval]; rfl); (first | exact trivial)) | ((with_reducible apply O_ldAVr hm); (iterate 2 (simp only [push_cast, seval]; rfl)); (intro _; rfl); intro e hm) | ((with_reducible apply O_shr hm); (iterate 2 (simp only [push_cast, seval]; rfl)); intro hm) | ((with_reducible apply O_and hm); (simp only [push_cast, seval]; rfl); rfl; intro v hm; rotate_left; intro v g hm) | ((with_reducible apply O_cvS hm); (iterate 2 (simp only [push_cast, seval]; rfl)); (focus (first | exact h4 _ _)); intro x hm) | ((with_reducible apply O_stVX hm); (iterate 3 (simp only [push_cast, seval]; rfl)); rfl; (intro _; rfl); rfl; (focus (intro a; simp only [push_cast, seval]; rfl)); (focus (intro a; (repeat' (first | rfl)); done)); (focus (intro _; (repeat' (first | exact Rer_nil | ((with_reducible apply Rer_cons); (focus (simp only [push_cast, seval]; rfl)); (focus (first | exact trivial)); (focus (simp only [push_cast, seval]))))); done)); intro e hm) | ((with_reducible apply S_condB hm); (simp only [push_cast, seval]; rfl); intro hm; rotate_left; intro hm) | ((with_reducible apply K_bool hm); (simp only [push_cast, seval]; rfl)) | ((with_reducible apply K_leave hm); intro r hm) | ((apply S_loopY (b := 0) (X := sc_slices_symMergeCmpFunc_interchange_api_Note_B1) (x := sc_slices_symMergeCmpFunc_interchange_api_Note_L1) rfl (fun (c : Ch × SV × SV × SV × SV × SV × SV) (s : Int × Int) => st [(0, .vec 0), (1, c.2.1), (4, c.2.2.1), (10, .d (.int .i64 s.1)), (11, .d (.int .i64 s.2)), (220, .vec 0), (221, c.2.2.2.1), (222, c.2.2.2.2.1), (223, c.2.2.2.2.2.1), (224, c.2.2.2.2.2.2)] [(0, c.1)]) (c := (_, _, _, _, _, _, _)) (s0 := (_, _)) hm); (focus (first | (dsimp only; done))); (with_reducible refine Then.mk ?_ ?_)) | ((apply S_loopY (b := 2) (X := sc_slices_symMergeCmpFunc_interchange_api_Note_B2) (x := sc_slices_symMergeCmpFunc_interchange_api_Note_L2) rfl (fun (c : SV × SV × SV × SV × SV) (s : (List Tapi_Note) × Int) => st [(0, .vec 0), (10, c.1), (13, .d (.int .i64 s.2)), (220, .vec 0), (221, c.2.1), (222, c.2.2.1), (223, c.2.2.2.1), (224, c.2.2.2.2)] [(0, .vec 29 2 (vrow rTapi_Note s.1))]) (c := (_, _, _, _, _)) (s0 := (_, _)) hm); (focus (first | (dsimp only; done))); (with_reducible refine Then.mk ?_ ?_)) | ((apply S_loopY (b := 4) (X := sc_slices_symMergeCmpFunc_interchange_api_Note_B3) (x := sc_slices_symMergeCmpFunc_interchange_api_Note_L3) rfl (fun (c : Ch × SV × SV × SV × SV × SV × SV) (s : Int × Int) => st [(0, .vec 0), (2, c.2.1), (4, c.2.2.1), (14, .d (.int .i64 s.1)), (15, .d (.int .i64 s.2)), (220, .vec 0), (221, c.2.2.2.1), (222, c.2.2.2.2.1), (223, c.2.2.2.2.2.1), (224, c.2.2.2.2.2.2)] [(0, c.1)]) (c := (_, _, _, _, _, _, _)) (s0 := (_, _)) hm); (focus (first | (dsimp only; done))); (with_reducible refine Then.mk ?_ ?_)) | ((apply S_loopY (b := 6) (X := sc_slices_symMergeCmpFunc_interchange_api_Note_B4) (x := sc_slices_symMergeCmpFunc_interchange_api_Note_L4) rfl (fun (c : SV × SV × SV × SV × SV) (s : (List Tapi_Note) × Int) => st [(0, .vec 0), (14, c.1), (17, .d (.int .i64 s.2)), (220, .vec 0), (221, c.2.1), (222, c.2.2.1), (223, c.2.2.2.1), (224, c.2.2.2.2)] [(0, .vec 29 2 (vrow rTapi_Note s.1))]) (c := (_, _, _, _, _)) (s0 := (_, _)) hm); (focus (first | (dsimp only; done))); (with_reducible refine Then.mk ?_ ?_)) | ((apply S_loopY (b := 8) (X := sc_slices_symMergeCmpFunc_interchange_api_Note_B5) (x := sc_slices_symMergeCmpFunc_interchange_api_Note_L5) rfl (fun (c : Ch × SV × SV × SV × SV × SV × SV × SV × SV × SV × SV × SV) (s : Int × Int) => st [(0, .vec 0), (1, c.2.1), (2, c.2.2.1), (3, c.2.2.2.1), (4, c.2.2.2.2.1), (18, c.2.2.2.2.2.1), (19, c.2.2.2.2.2.2.1), (20, .d (.int .i64 s.1)), (21, .d (.int .i64 s.2)), (22, c.2.2.2.2.2.2.2.1), (220, .vec 0), (221, c.2.2.2.2.2.2.2.2.1), (222, c.2.2.2.2.2.2.2.2.2.1), (223, c.2.2.2.2.2.2.2.2.2.2.1), (224, c.2.2.2.2.2.2.2.2.2.2.2)] [(0, c.1)]) (c := (_, _, _, _, _, _, _, _, _, _, _, _)) (s0 := (_, _)) hm); (focus (first | (dsimp only; done))); (with_reducible refine Then.mk ?_ ?_)) | ((apply K_next (s' := (_, _)) hm); (focus (first | (dsimp only; done)))) | ((apply K_brk (s' := (_, _)) hm); (focus (first | (dsimp only; done)))) | (((with_reducible apply O_pLs0 hm); (focus (simp only [push_cast, seval]; (try rfl); done)); (focus (simp only [push_cast, seval]; (try rfl); done)); (focus (simp only [push_cast, seval]; (try rfl); done)); (focus (intro _; rfl)); (focus (first | apply spec_slices_rotateCmpFunc_interchange_api_Note _ _ _ _ _ _ _ h4)); (any_goals (focus ((repeat' (first | rfl)); done))); (focus (intro _; exact ⟨rfl, rfl⟩)); intro y hm)) | (((with_reducible apply O_pLs0 hm); (focus (simp only [push_cast, seval]; (try rfl); done)); (focus (simp only [push_cast, seval]; (try rfl); done)); (focus (simp only [push_cast, seval]; (try rfl); done)); (focus (intro _; rfl)); (focus (first | apply spec_slices_symMergeCmpFunc_interchange_api_Note _ _ _ _ _ _ _ h4)); (any_goals (focus ((repeat' (first | rfl)); done))); (focus (intro _; exact ⟨rfl, rfl⟩)); intro y hm)) | (((with_reducible apply K_endLs0 hm (a := ())); (focus (exact Imp.refl _)); (focus (simp only [push_cast, seval]; (try rfl); done)); (focus ((repeat' (first | (with_reducible first | apply r_rfl))); done)); (focus (intro _; rfl)); (focus (simp only [push_cast, seval]; (try rfl); done)); (focus (simp only [push_cast, seval]; (try rfl); done)); (focus (simp only [push_cast, seval]; (try rfl); done)); (focus (simp only [push_cast, seval]; (try rfl); done)); (focus (first | exact he_0)))) | (((with_reducible apply K_endLs0N hm (a := ())); (focus (exact Imp.refl _)); (focus (simp only [push_cast, seval]; (try rfl); done)); (focus ((repeat' (first | (with_reducible first | apply r_rfl))); done)); (focus (intro _; rfl)); (focus (simp only [push_cast, seval]; (try rfl); done)); (focus (simp only [push_cast, seval]; (try rfl); done)); (focus (simp only [push_cast, seval]; (try rfl); done)); (focus (simp only [push_cast, seval]; (try rfl); done)); (focus (first | exact he_0)))) | (((with_reducible apply LoopB.of); (focus (first | (dsimp only; done))); (focus ((intro _; repeat' (first | with_reducible exact impC_endF | with_reducible refine impC_seq ?_)))); (intro s o hm; first | unfold sc_slices_symMergeCmpFunc_interchange_api_Note_L1 | unfold sc_slices_symMergeCmpFunc_interchange_api_Note_L2 | unfold sc_slices_symMergeCmpFunc_interchange_api_Note_L3 | unfold sc_slices_symMergeCmpFunc_interchange_api_Note_L4 | unfold sc_slices_symMergeCmpFunc_interchange_api_Note_L5); rotate_left; intro s hm)) | (((apply imp_stT; (repeat' (first | with_reducible exact keepT_nil | with_reducible exact keepC_nil | with_reducible apply keepT_cons | with_reducible apply keepC_cons | ((with_reducible apply svle_eq); (focus (first | (simp only [push_cast, seval]; rfl))); (focus ((repeat' (first | rfl)); done))) | ((with_reducible apply chle_eq); (focus (first | (simp only [push_cast, seval]; rfl))); (first | with_reducible exact chle_rfl rfl)))); done))))
noncomputable def sims_GS_2_0 (fu : Nat) : (∀ (x0 : List Tapi_Note) (x1 : Int) (x2 : Int) (x3 : Int) (f4 : FuncId) (c4 : List DV) (p4 : Tapi_Note → Tapi_Note → Option (Int)) (h4 : ∀ a0 a1 r, p4 a0 a1 = some r → PureSpec Tryz.prog f4 ([.agg (rTapi_Note a0), .agg (rTapi_Note a1)] ++ c4) (.int .i64 r)), {m : Option ((Unit) × (List Tapi_Note)) // ∀ r, m = some r → FSpec Tryz.prog 80 (.own (.sl 29 (List.replicate 2 .sh)) (.slice (List.map rTapi_Note x0)) :: (List.map SV.d ([.int .i64 x1, .int .i64 x2, .int .i64 x3, .fn f4 c4] : List DV))) (.tup []) (.own (.sl 29 (List.replicate 2 .sh)) (.slice (List.map rTapi_Note r.2)) :: (List.map SV.d ([.int .i64 x1, .int .i64 x2, .int .i64 x3, .fn f4 c4] : List DV)))}) := Nat.rec (fun x0 x1 x2 x3 f4 c4 p4 h4 => ⟨none, fun r h => by cases h⟩) (fun _ ih => step_GS_2_0 ih) fu
noncomputable def m_slices_symMergeCmpFunc_interchange_api_Note (fu : Nat) (x0 : List Tapi_Note) (x1 : Int) (x2 : Int) (x3 : Int) (f4 : FuncId) (c4 : List DV) (p4 : Tapi_Note → Tapi_Note → Option (Int)) (h4 : ∀ a0 a1 r, p4 a0 a1 = some r → PureSpec Tryz.prog f4 ([.agg (rTapi_Note a0), .agg (rTapi_Note a1)] ++ c4) (.int .i64 r)) : Option ((Unit) × (List Tapi_Note)) := ((sims_GS_2_0 fu) x0 x1 x2 x3 f4 c4 p4 h4).1
theorem m_slices_symMergeCmpFunc_interchange_api_Note_zero (x0 : List Tapi_Note) (x1 : Int) (x2 : Int) (x3 : Int) (f4 : FuncId) (c4 : List DV) (p4 : Tapi_Note → Tapi_Note → Option (Int)) (h4 : ∀ a0 a1 r, p4 a0 a1 = some r → PureSpec Tryz.prog f4 ([.agg (rTapi_Note a0), .agg (rTapi_Note a1)] ++ c4) (.int .i64 r)) : m_slices_symMergeCmpFunc_interchange_api_Note 0 x0 x1 x2 x3 f4 c4 p4 h4 = none := rfl
theorem m_slices_symMergeCmpFunc_interchange_api_Note_fold (fu : Nat) (x0 : List Tapi_Note) (x1 : Int) (x2 : Int) (x3 : Int) (f4 : FuncId) (c4 : List DV) (p4 : Tapi_Note → Tapi_Note → Option (Int)) (h4 : ∀ a0 a1 r, p4 a0 a1 = some r → PureSpec Tryz.prog f4 ([.agg (rTapi_Note a0), .agg (rTapi_Note a1)] ++ c4) (.int .i64 r)) : ((sims_GS_2_0 fu) x0 x1 x2 x3 f4 c4 p4 h4).1 = m_slices_symMergeCmpFunc_interchange_api_Note fu x0 x1 x2 x3 f4 c4 p4 h4 := rfl
theorem m_slices_symMergeCmpFunc_interchange_api_Note_succ (fu : Nat) (x0 : List Tapi_Note) (x1 : Int) (x2 : Int) (x3 : Int) (f4 : FuncId) (c4 : List DV) (p4 : Tapi_Note → Tapi_Note → Option (Int)) (h4 : ∀ a0 a1 r, p4 a0 a1 = some r → PureSpec Tryz.prog f4 ([.agg (rTapi_Note a0), .agg (rTapi_Note a1)] ++ c4) (.int .i64 r)) : m_slices_symMergeCmpFunc_interchange_api_Note (fu + 1) x0 x1 x2 x3 f4 c4 p4 h4 = ((step_GS_2_0 (sims_GS_2_0 fu)) x0 x1 x2 x3 f4 c4 p4 h4).1 := rfl
theorem spec_slices_symMergeCmpFunc_interchange_api_Note (fu : Nat) (x0 : List Tapi_Note) (x1 : Int) (x2 : Int) (x3 : Int) (f4 : FuncId) (c4 : List DV) (p4 : Tapi_Note → Tapi_Note → Option (Int)) (h4 : ∀ a0 a1 r, p4 a0 a1 = some r → PureSpec Tryz.prog f4 ([.agg (rTapi_Note a0), .agg (rTapi_Note a1)] ++ c4) (.int .i64 r)) : ∀ r, m_slices_symMergeCmpFunc_interchange_api_Note fu x0 x1 x2 x3 f4 c4 p4 h4 = some r → FSpec Tryz.prog 80 (.own (.sl 29 (List.replicate 2 .sh)) (.slice (List.map rTapi_Note x0)) :: (List.map SV.d ([.int .i64 x1, .int .i64 x2, .int .i64 x3, .fn f4 c4] : List DV))) (.tup []) (.own (.sl 29 (List.replicate 2 .sh)) (.slice (List.map rTapi_Note r.2)) :: (List.map SV.d ([.int .i64 x1, .int .i64 x2, .int .i64 x3, .fn f4 c4] : List DV))) := ((sims_GS_2_0 fu) x0 x1 x2 x3 f4 c4 p4 h4).2

def sc_slices_stableCmpFunc_interchange_api_Note_L1 : SC :=
  (.seq (.seq (.reg [.r 11 (.mv (.t 8)),
     .r 12 (.mv (.t 1)),
     .r 13 (.bin .leq (.t 11) (.t 12))])
  (.cond (.t 13)
    .skip
    (.exit 0)))
  (.block 1 (.seq (.reg [.r 14 (.mv (.t 0)),
       .r 15 (.mv (.t 7)),
       .r 16 (.mv (.t 8)),
       .r 17 (.mv (.t 2)),
       .p (some 18) (.f 79) [.t 14, .t 15, .t 16, .t 17]])
    (.seq (.reg [.r 19 (.mv (.t 8)),
       .r 7 (.mv (.t 19))])
    (.reg [.r 20 (.mv (.t 8)),
       .r 21 (.mv (.t 6)),
       .r 22 (.bin .add (.t 20) (.t 21)),
       .r 8 (.mv (.t 22))])))))
def sc_slices_stableCmpFunc_interchange_api_Note_B1 : SC := .block 0 (.loop sc_slices_stableCmpFunc_interchange_api_Note_L1)
def sc_slices_stableCmpFunc_interchange_api_Note_L2 : SC :=
  (.seq (.seq (.reg [.r 33 (.mv (.t 8)),
     .r 34 (.mv (.t 1)),
     .r 35 (.bin .leq (.t 33) (.t 34))])
  (.cond (.t 35)
    .skip
    (.exit 4)))
  (.block 5 (.seq (.reg [.r 36 (.mv (.t 0)),
       .r 37 (.mv (.t 7)),
       .r 38 (.mv (.t 7)),
       .r 39 (.mv (.t 6)),
       .r 40 (.bin .add (.t 38) (.t 39)),
       .r 41 (.mv (.t 8)),
       .r 42 (.mv (.t 2)),
       .p (some 43) (.f 80) [.t 36, .t 37, .t 40, .t 41, .t 42]])
    (.seq (.reg [.r 44 (.mv (.t 8)),
       .r 7 (.mv (.t 44))])
    (.reg [.r 45 (.mv (.t 8)),
       .r 46 (.mv (.t 6)),
       .r 47 (.bin .mul (.c (.d (.int .i64 2))) (.t 46)),
       .r 48 (.bin .add (.t 45) (.t 47)),
       .r 8 (.mv (.t 48))])))))
def sc_slices_stableCmpFunc_interchange_api_Note_B2 : SC := .block 4 (.loop sc_slices_stableCmpFunc_interchange_api_Note_L2)
def sc_slices_stableCmpFunc_interchange_api_Note_L3 : SC :=
  (.seq (.seq (.reg [.r 28 (.mv (.t 6)),
     .r 29 (.mv (.t 1)),
     .r 30 (.bin .lss (.t 28) (.t 29))])
  (.cond (.t 30)
    .skip
    (.exit 2)))
  (.block 3 (.seq (.reg [.r 31 (.mv (.t 6)),
       .r 32 (.bin .mul (.c (.d (.int .i64 2))) (.t 31)),
       .r 7 (.mv (.c (.d (.int .i64 0)))),
       .r 8 (.mv (.t 32))])
    (.seq sc_slices_stableCmpFunc_interchange_api_Note_B2
    (.seq (.seq (.reg [.r 49 (.mv (.t 7)),
       .r 50 (.mv (.t 6)),
       .r 51 (.bin .add (.t 49) (.t 50)),
       .r 9 (.mv (.t 51))])
    (.seq (.reg [.r 52 (.mv (.t 9)),
       .r 53 (.mv (.t 1)),
       .r 54 (.bin .lss (.t 52) (.t 53))])
    (.cond (.t 54)
      (.reg [.r 55 (.mv (.t 0)),
         .r 56 (.mv (.t 7)),
         .r 57 (.mv (.t 9)),
         .r 58 (.mv (.t 1)),
         .r 59 (.mv (.t 2)),
         .p (some 60) (.f 80) [.t 55, .t 56, .t 57, .t 58, .t 59]])
      .skip)))
    (.reg [.r 61 (.mv (.t 6)),
       .r 62 (.bin .mul (.t 61) (.c (.d (.int .i64 2)))),
       .r 6 (.mv (.t 62))]))))))
def sc_slices_stableCmpFunc_interchange_api_Note_B3 : SC := .block 2 (.loop sc_slices_stableCmpFunc_interchange_api_Note_L3)
/-- slices.stableCmpFunc[interchange/api.Note] -/
def sc_slices_stableCmpFunc_interchange_api_Note : SC :=
  (.seq (.reg [.r 6 (.mv (.c (.d (.int .i64 20))))])
  (.seq (.reg [.r 10 (.mv (.t 6)),
     .r 7 (.mv (.c (.d (.int .i64 0)))),
     .r 8 (.mv (.t 10))])
  (.seq sc_slices_stableCmpFunc_interchange_api_Note_B1
  (.seq (.reg [.r 23 (.mv (.t 0)),
     .r 24 (.mv (.t 7)),
     .r 25 (.mv (.t 1)),
     .r 26 (.mv (.t 2)),
     .p (some 27) (.f 79) [.t 23, .t 24, .t 25, .t 26]])
  sc_slices_stableCmpFunc_interchange_api_Note_B3))))
theorem fit_slices_stableCmpFunc_interchange_api_Note : fits Tryz.prog 57 Tryz.f57 sc_slices_stableCmpFunc_interchange_api_Note [] 3 = true := by kernel_rfl

set_option maxRecDepth 100000 in
set_option maxHeartbeats 40000000 in
noncomputable def sims_GS_3_0 : (∀ (x0 : List Tapi_Note) (x1 : Int) (f2 : FuncId) (c2 : List DV) (p2 : Tapi_Note → Tapi_Note → Option (Int)) (h2 : ∀ a0 a1 r, p2 a0 a1 = some r → PureSpec Tryz.prog f2 ([.agg (rTapi_Note a0), .agg (rTapi_Note a1)] ++ c2) (.int .i64 r)), {m : Option ((Unit) × (List Tapi_Note)) // ∀ r, m = some r → FSpec Tryz.prog 57 (.own (.sl 29 (List.replicate 2 .sh)) (.slice (List.map rTapi_Note x0)) :: (List.map SV.d ([.int .i64 x1, .fn f2 c2] : List DV))) (.tup []) (.own (.sl 29 (List.replicate 2 .sh)) (.slice (List.map rTapi_Note r.2)) :: (List.map SV.d ([.int .i64 x1, .fn f2 c2] : List DV)))}) := by
  (intro x0 x1 f2 c2 p2 h2; apply Subtype.mk; intro r hm; apply fspec_walkL0 (N := 63) (k := 3) Tryz.func57 fit_slices_stableCmpFunc_interchange_api_Note (by kernel_rfl) rfl (open_sl (row := rTapi_Note) (n := 2) (fun _ => rfl) x0) rfl (by decide); unfold sc_slices_stableCmpFunc_interchange_api_Note)
  repeat' (first | with_reducible refine W_seq ?_ | with_reducible refine W_reg ?_ | with_reducible refine W_block ?_ | with_reducible refine W_skip ?_ | with_reducible refine W_exit ?_ | with_reducible refine O_nil ?_ | with_reducible refine K_seq ?_ | with_reducible refine K_seqE ?_ | with_reducible refine K_block ?_ | ((with_reducible apply O_r); (simp only [push_cast, seval]; rfl); (first | exact trivial)) | ((with_reducible apply S_condB hm); (simp only [push_cast, seval]; rfl); intro hm; rotate_left; intro hm) | ((with_reducible apply K_leave hm); intro r hm) | ((apply S_loopY (b := 0) (X := sc_slices_stableCmpFunc_interchange_api_Note_B1) (x := sc_slices_stableCmpFunc_interchange_api_Note_L1) rfl (fun (c : SV × SV × SV × SV × SV) (s : (List Tapi_Note) × Int × Int) => st [(0, .vec 0), (1, c.1), (2, c.2.1), (6, c.2.2.1), (7, .d (.int .i64 s.2.1)), (8, .d (.int .i64 s.2.2)), (63, .vec 0), (64, c.2.2.2.1), (65, c.2.2.2.2)] [(0, .vec 29 2 (vrow rTapi_Note s.1))]) (c := (_, _, _, _, _)) (s0 := (_, _, _)) hm); (focus (first | (dsimp only; done))); (with_reducible refine Then.mk ?_ ?_)) | ((apply S_loopY (b := 4) (X := sc_slices_stableCmpFunc_interchange_api_Note_B2) (x := sc_slices_stableCmpFunc_interchange_api_Note_L2) rfl (fun (c : SV × SV × SV × SV × SV) (s : (List Tapi_Note) × Int × Int) => st [(0, .vec 0), (1, c.1), (2, c.2.1), (6, c.2.2.1), (7, .d (.int .i64 s.2.1)), (8, .d (.int .i64 s.2.2)), (63, .vec 0), (64, c.2.2.2.1), (65, c.2.2.2.2)] [(0, .vec 29 2 (vrow rTapi_Note s.1))]) (c := (_, _, _, _, _)) (s0 := (_, _, _)) hm); (focus (first | (dsimp only; done))); (with_reducible refine Then.mk ?_ ?_)) | ((apply S_loopY (b := 2) (X := sc_slices_stableCmpFunc_interchange_api_Note_B3) (x := sc_slices_stableCmpFunc_interchange_api_Note_L3) rfl (fun (c : SV × SV × SV × SV) (s : (List Tapi_Note) × Int) => st [(0, .vec 0), (1, c.1), (2, c.2.1), (6, .d (.int .i64 s.2)), (63, .vec 0), (64, c.2.2.1), (65, c.2.2.2)] [(0, .vec 29 2 (vrow rTapi_Note s.1))]) (c := (_, _, _, _)) (s0 := (_, _)) hm); (focus (first | (dsimp only; done))); (with_reducible refine Then.mk ?_ ?_)) | ((apply K_next (s' := (_, _, _)) hm); (focus (first | (dsimp only; done)))) | ((apply K_brk (s' := (_, _, _)) hm); (focus (first | (dsimp only; done)))) | ((apply K_next (s' := (_, _)) hm); (focus (first | (dsimp only; done)))) | ((apply K_brk (s' := (_, _)) hm); (focus (first | (dsimp only; done)))) | (((with_reducible apply O_pLs0 hm); (focus (simp only [push_cast, seval]; (try rfl); done)); (focus (simp only [push_cast, seval]; (try rfl); done)); (focus (simp only [push_cast, seval]; (try rfl); done)); (focus (intro _; rfl)); (focus (first | apply spec_slices_insertionSortCmpFunc_interchange_api_Note _ _ _ _ _ _ h2)); (any_goals (focus ((repeat' (first | rfl)); done))); (focus (intro _; exact ⟨rfl, rfl⟩)); intro y hm)) | (((with_reducible apply O_pLs0 hm); (focus (simp only [push_cast, seval]; (try rfl); done)); (focus (simp only [push_cast, seval]; (try rfl); done)); (focus (simp only [push_cast, seval]; (try rfl); done)); (focus (intro _; rfl)); (focus (first | apply spec_slices_symMergeCmpFunc_interchange_api_Note FU _ _ _ _ _ _ _ h2)); (any_goals (focus ((repeat' (first | rfl)); done))); (focus (intro _; exact ⟨rfl, rfl⟩)); intro y hm)) | (((with_reducible apply K_endLs0N hm (a := ())); (focus (exact Imp.refl _)); (focus (simp only [push_cast, seval]; (try rfl); done)); (focus ((repeat' (first | (with_reducible first | apply r_rfl))); done)); (focus (intro _; rfl)); (focus (simp only [push_cast, seval]; (try rfl); done)); (focus (simp only [push_cast, seval]; (try rfl); done)); (focus (simp only [push_cast, seval]; (try rfl); done)); (focus (simp only [push_cast, seval]; (try rfl); done)); (focus (first | exact he_0)))) | (((with_reducible apply LoopB.of); (focus (first | (dsimp only; done))); (focus ((intro _; repeat' (first | with_reducible exact impC_endF | with_reducible refine impC_seq ?_ | with_reducible refine impC_block ?_ | ((with_reducible refine impC_rnd ?_); intro _) | ((with_reducible refine impC_brk ?_); intro _))))); (intro s o hm; first | unfold sc_slices_stableCmpFunc_interchange_api_Note_L1 | unfold sc_slices_stableCmpFunc_interchange_api_Note_L2 | unfold sc_slices_stableCmpFunc_interchange_api_Note_L3); rotate_left; intro s hm)) | (((apply imp_stT; (repeat' (first | with_reducible exact keepT_nil | with_reducible exact keepC_nil | with_reducible apply keepT_cons | with_reducible apply keepC_cons | ((with_reducible apply svle_eq); (focus (first | (simp only [push_cast, seval]; rfl))); (focus ((repeat' (first | rfl)); done))) | ((with_reducible apply chle_eq); (focus (first | (simp only [push_cast, seval]; rfl))); (first | with_reducible exact chle_rfl rfl)))); done))))
noncomputable def m_slices_stableCmpFunc_interchange_api_Note (x0 : List Tapi_Note) (x1 : Int) (f2 : FuncId) (c2 : List DV) (p2 : Tapi_Note → Tapi_Note → Option (Int)) (h2 : ∀ a0 a1 r, p2 a0 a1 = some r → PureSpec Tryz.prog f2 ([.agg (rTapi_Note a0), .agg (rTapi_Note a1)] ++ c2) (.int .i64 r)) : Option ((Unit) × (List Tapi_Note)) := (sims_GS_3_0 x0 x1 f2 c2 p2 h2).1
theorem spec_slices_stableCmpFunc_interchange_api_Note (x0 : List Tapi_Note) (x1 : Int) (f2 : FuncId) (c2 : List DV) (p2 : Tapi_Note → Tapi_Note → Option (Int)) (h2 : ∀ a0 a1 r, p2 a0 a1 = some r → PureSpec Tryz.prog f2 ([.agg (rTapi_Note a0), .agg (rTapi_Note a1)] ++ c2) (.int .i64 r)) : ∀ r, m_slices_stableCmpFunc_interchange_api_Note x0 x1 f2 c2 p2 h2 = some r → FSpec Tryz.prog 57 (.own (.sl 29 (List.replicate 2 .sh)) (.slice (List.map rTapi_Note x0)) :: (List.map SV.d ([.int .i64 x1, .fn f2 c2] : List DV))) (.tup []) (.own (.sl 29 (List.replicate 2 .sh)) (.slice (List.map rTapi_Note r.2)) :: (List.map SV.d ([.int .i64 x1, .fn f2 c2] : List DV))) := (sims_GS_3_0 x0 x1 f2 c2 p2 h2).2

/-- slices.SortStableFunc[[]interchange/api.Note,interchange/api.Note] -/
def sc_slices_SortStableFunc_interchange_api_Note_interchange_api_Note : SC :=
  (.reg [.r 4 (.mv (.t 0)),
     .r 5 (.mv (.t 0)),
     .r 6 (.len (.t 5)),
     .r 7 (.mv (.t 1)),
     .p (some 8) (.f 57) [.t 4, .t 6, .t 7]])
theorem fit_slices_SortStableFunc_interchange_api_Note_interchange_api_Note : fits Tryz.prog 29 Tryz.f29 sc_slices_SortStableFunc_interchange_api_Note_interchange_api_Note [] 2 = true := by kernel_rfl

set_option maxRecDepth 100000 in
set_option maxHeartbeats 40000000 in
noncomputable def sims_GS_4_0 : (∀ (x0 : List Tapi_Note) (f1 : FuncId) (c1 : List DV) (p1 : Tapi_Note → Tapi_Note → Option (Int)) (h1 : ∀ a0 a1 r, p1 a0 a1 = some r → PureSpec Tryz.prog f1 ([.agg (rTapi_Note a0), .agg (rTapi_Note a1)] ++ c1) (.int .i64 r)), {m : Option ((Unit) × (List Tapi_Note)) // ∀ r, m = some r → FSpec Tryz.prog 29 (.own (.sl 29 (List.replicate 2 .sh)) (.slice (List.map rTapi_Note x0)) :: (List.map SV.d ([.fn f1 c1] : List DV))) (.tup []) (.own (.sl 29 (List.replicate 2 .sh)) (.slice (List.map rTapi_Note r.2)) :: (List.map SV.d ([.fn f1 c1] : List DV)))}) := by
  (intro x0 f1 c1 p1 h1; apply Subtype.mk; intro r hm; apply fspec_walkL0 (N := 9) (k := 2) Tryz.func29 fit_slices_SortStableFunc_interchange_api_Note_interchange_api_Note (by kernel_rfl) rfl (open_sl (row := rTapi_Note) (n := 2) (fun _ => rfl) x0) rfl (by decide); unfold sc_slices_SortStableFunc_interchange_api_Note_interchange_api_Note)
  repeat' (first | with_reducible refine W_reg ?_ | with_reducible refine O_nil ?_ | ((with_reducible apply O_r); (simp only [push_cast, seval]; rfl); (first | exact trivial)) | (((with_reducible apply O_pLs0 hm); (focus (simp only [push_cast, seval]; (try rfl); done)); (focus (simp only [push_cast, seval]; (try rfl); done)); (focus (simp only [push_cast, seval]; (try rfl); done)); (focus (intro _; rfl)); (focus (first | apply spec_slices_stableCmpFunc_interchange_api_Note _ _ _ _ _ h1)); (any_goals (focus ((repeat' (first | rfl)); done))); (focus (intro _; exact ⟨rfl, rfl⟩)); intro y hm)) | (((with_reducible apply K_endLs0N hm (a := ())); (focus (exact Imp.refl _)); (focus (simp only [push_cast, seval]; (try rfl); done)); (focus ((repeat' (first | (with_reducible first | apply r_rfl))); done)); (focus (intro _; rfl)); (focus (simp only [push_cast, seval]; (try rfl); done)); (focus (simp only [push_cast, seval]; (try rfl); done)); (focus (simp only [push_cast, seval]; (try rfl); done)); (focus (simp only [push_cast, seval]; (try rfl); done)); (focus (first | exact he_0)))))
noncomputable def m_slices_SortStableFunc_interchange_api_Note_interchange_api_Note (x0 : List Tapi_Note) (f1 : FuncId) (c1 : List DV) (p1 : Tapi_Note → Tapi_Note → Option (Int)) (h1 : ∀ a0 a1 r, p1 a0 a1 = some r → PureSpec Tryz.prog f1 ([.agg (rTapi_Note a0), .agg (rTapi_Note a1)] ++ c1) (.int .i64 r)) : Option ((Unit) × (List Tapi_Note)) := (sims_GS_4_0 x0 f1 c1 p1 h1).1
theorem spec_slices_SortStableFunc_interchange_api_Note_interchange_api_Note (x0 : List Tapi_Note) (f1 : FuncId) (c1 : List DV) (p1 : Tapi_Note → Tapi_Note → Option (Int)) (h1 : ∀ a0 a1 r, p1 a0 a1 = some r → PureSpec Tryz.prog f1 ([.agg (rTapi_Note a0), .agg (rTapi_Note a1)] ++ c1) (.int .i64 r)) : ∀ r, m_slices_SortStableFunc_interchange_api_Note_interchange_api_Note x0 f1 c1 p1 h1 = some r → FSpec Tryz.prog 29 (.own (.sl 29 (List.replicate 2 .sh)) (.slice (List.map rTapi_Note x0)) :: (List.map SV.d ([.fn f1 c1] : List DV))) (.tup []) (.own (.sl 29 (List.replicate 2 .sh)) (.slice (List.map rTapi_Note r.2)) :: (List.map SV.d ([.fn f1 c1] : List DV))) := (sims_GS_4_0 x0 f1 c1 p1 h1).2

end Go.Proofs.YtcnohbiegjahkaaGreatDoor

/-
  Bodies of functions and what they compute, printed by programs of mine (wip/tool/gen.py, sc.py) out of the translation; the kernel holds each against the translation.
-/
namespace Go.Proofs.YtcnohbiegjahkaaGreatDoor
open Go.RowKit
set_option linter.unusedSimpArgs false
set_option linter.unusedVariables false
structure Tapi_Spot where
  fElement : Int
  fRepeat : Int
  fPart : Int
  deriving DecidableEq
def rTapi_Spot (x : Tapi_Spot) : List DV := [.int .i64 x.fElement, .int .i64 x.fRepeat, .int .i64 x.fPart]
attribute [push_cast] rTapi_Spot
theorem fT_Tapi_Spot {d0 d1 d2 : DV} {v0 : Int} {v1 : Int} {v2 : Int} (h0 : d0 = .int .i64 v0) (h1 : d1 = .int .i64 v1) (h2 : d2 = .int .i64 v2) : [d0, d1, d2] = rTapi_Spot ⟨v0, v1, v2⟩ := by unfold rTapi_Spot; simp only [h0, h1, h2, List.cons_append, List.nil_append, List.append_assoc, List.append_nil]
def sc_wire_texts_L1 : SC :=
  (.seq (.reg [.r 11 (.bin .lss (.t 10) (.t 9))])
  (.seq (.cond (.t 11)
    .skip
    (.exit 0))
  (.seq (.block 1 (.seq (.reg [.r 12 (.idx 1 (.t 8) (.t 10)),
       .o 13 (.ldA 1 (.t 12)),
       .w 6 (.boxM (.c (.agg [.nils]))),
       .w 0 (.st 1 (.t 6) (.t 13))])
    (.seq (.seq (.reg (.r 14 (.fld 0 (.t 6)) :: .o 15 (.ld1 (.t 14)) :: .r 16 (.len (.t 15)) :: .r 17 (.bin .neq (.t 16) (.c (.d (.int .i64 1)))) :: .r 18 (.mv (.t 17)) :: gapp [19, 20, 21, 22, 23, 24] 18 false (.r 19 (.fld 0 (.t 6)) :: .r 20 (.ld1 (.t 19)) :: .r 21 (.idx 1 (.t 20) (.c (.d (.int .i64 0)))) :: .r 22 (.ld1 (.t 21)) :: .r 23 (.len (.t 22)) :: .r 24 (.bin .neq (.t 23) (.c (.d (.int .i64 1)))) :: []) (.r 25 (.pick (.t 18) (.c (.d (.bool true))) (.t 24)) :: [])))
    (.cond (.t 25)
      (.seq (.reg [.r 2 (.mv (.c (.nils))),
         .r 3 (.mv (.c (.d (.bool false))))])
      .ret)
      .skip))
    (.reg [.r 26 (.mv (.t 4)),
       .r 27 (.fld 0 (.t 6)),
       .o 28 (.ld1 (.t 27)),
       .r 29 (.idx 1 (.t 28) (.c (.d (.int .i64 0)))),
       .o 30 (.ld1 (.t 29)),
       .r 31 (.idx 1 (.t 30) (.c (.d (.int .i64 0)))),
       .o 32 (.ld1 (.t 31)),
       .r 33 (.bslice 1 [.t 32]),
       .w 34 (.app 9 1 (.t 26) (.t 33)),
       .r 4 (.mv (.t 34))]))))
  (.reg [.r 35 (.bin .add (.t 10) (.c (.d (.int .i64 1)))),
     .r 10 (.mv (.t 35))]))))
def sc_wire_texts_B1 : SC := .block 0 (.loop sc_wire_texts_L1)
/-- interchange/wire.texts -/
def sc_wire_texts : SC :=
  (.seq (.reg [.r 1 (.boxI (.t 0)),
     .r 2 (.mv (.c (.nils))),
     .r 3 (.mv (.c (.d (.bool false))))])
  (.seq (.reg [.r 4 (.mv (.c (.nils)))])
  (.seq (.seq (.reg [.r 7 (.fld 1 (.t 1)),
     .o 8 (.ld1 (.t 7)),
     .r 9 (.len (.t 8)),
     .r 10 (.mv (.c (.d (.int .i64 0))))])
  sc_wire_texts_B1)
  (.seq (.reg [.r 36 (.mv (.t 4)),
     .r 2 (.mv (.t 36)),
     .r 3 (.mv (.c (.d (.bool true))))])
  .ret))))
theorem fit_wire_texts : fits Tryz.prog 55 Tryz.f55 sc_wire_texts [.t 2, .t 3] 1 = true := by kernel_rfl

/-- interchange/kit.IsRef -/
def sc_kit_IsRef : SC :=
  (.seq (.reg [.r 2 (.mv (.c (.d (.bool false))))])
  (.seq (.reg (.r 3 (.mv (.t 0)) :: .r 4 (.lenT (.t 3)) :: .r 5 (.bin .geq (.t 4) (.c (.d (.int .i64 1)))) :: .r 6 (.mv (.t 5)) :: gapp [7, 8, 9] 6 true (.r 7 (.mv (.t 0)) :: .r 8 (.lenT (.t 7)) :: .r 9 (.bin .leq (.t 8) (.c (.d (.int .i64 14)))) :: []) (.r 10 (.pick (.t 6) (.t 9) (.c (.d (.bool false)))) :: .r 11 (.mv (.t 10)) :: gapp [12, 13, 14] 11 true (.r 12 (.mv (.t 0)) :: .c 13 (.f 68) [.t 12, .c (.d (.str [65, 66, 67, 68, 69, 70, 71, 72, 73, 74, 75, 76, 77, 78, 79, 80, 81, 82, 83, 84, 85, 86, 87, 88, 89, 90, 48, 49, 50, 51, 52, 53, 54, 55, 56, 57, 45]))] :: .r 14 (.bin .eql (.t 13) (.c (.d (.str [])))) :: []) (.r 15 (.pick (.t 11) (.t 14) (.c (.d (.bool false)))) :: .r 2 (.mv (.t 15)) :: []))))
  .ret))
theorem fit_kit_IsRef : fits Tryz.prog 39 Tryz.f39 sc_kit_IsRef [.t 2] 1 = true := by kernel_rfl

/-- interchange/kit.IsName -/
def sc_kit_IsName : SC :=
  (.seq (.reg [.r 2 (.mv (.c (.d (.bool false))))])
  (.seq (.seq (.reg (.r 3 (.mv (.t 0)) :: .r 4 (.lenT (.t 3)) :: .r 5 (.bin .lss (.t 4) (.c (.d (.int .i64 1)))) :: .r 6 (.mv (.t 5)) :: gapp [7, 8, 9] 6 false (.r 7 (.mv (.t 0)) :: .r 8 (.lenT (.t 7)) :: .r 9 (.bin .gtr (.t 8) (.c (.d (.int .i64 40)))) :: []) (.r 10 (.pick (.t 6) (.c (.d (.bool true))) (.t 9)) :: .r 11 (.mv (.t 10)) :: gapp [12, 13, 14] 11 false (.r 12 (.mv (.t 0)) :: .r 13 (.sidx (.t 12) (.c (.d (.int .i64 0)))) :: .r 14 (.bin .lss (.t 13) (.c (.d (.int .u8 97)))) :: []) (.r 15 (.pick (.t 11) (.c (.d (.bool true))) (.t 14)) :: .r 16 (.mv (.t 15)) :: gapp [17, 18, 19] 16 false (.r 17 (.mv (.t 0)) :: .r 18 (.sidx (.t 17) (.c (.d (.int .i64 0)))) :: .r 19 (.bin .gtr (.t 18) (.c (.d (.int .u8 122)))) :: []) (.r 20 (.pick (.t 16) (.c (.d (.bool true))) (.t 19)) :: [])))))
  (.cond (.t 20)
    (.seq (.reg [.r 2 (.mv (.c (.d (.bool false))))])
    .ret)
    .skip))
  (.seq (.reg [.r 21 (.mv (.t 0)),
     .c 22 (.f 68) [.t 21, .c (.d (.str [97, 98, 99, 100, 101, 102, 103, 104, 105, 106, 107, 108, 109, 110, 111, 112, 113, 114, 115, 116, 117, 118, 119, 120, 121, 122, 48, 49, 50, 51, 52, 53, 54, 55, 56, 57, 45]))],
     .r 23 (.bin .eql (.t 22) (.c (.d (.str [])))),
     .r 2 (.mv (.t 23))])
  .ret)))
theorem fit_kit_IsName : fits Tryz.prog 40 Tryz.f40 sc_kit_IsName [.t 2] 1 = true := by kernel_rfl

/-- interchange/kit.IsDigits -/
def sc_kit_IsDigits : SC :=
  (.seq (.reg [.r 2 (.mv (.c (.d (.bool false))))])
  (.seq (.reg (.r 3 (.mv (.t 0)) :: .r 4 (.bin .neq (.t 3) (.c (.d (.str [])))) :: .r 5 (.mv (.t 4)) :: gapp [6, 7] 5 true (.r 6 (.mv (.t 0)) :: .c 7 (.f 84) [.t 6, .c (.d (.int .u8 48)), .c (.d (.int .u8 57))] :: []) (.r 8 (.pick (.t 5) (.t 7) (.c (.d (.bool false)))) :: .r 2 (.mv (.t 8)) :: [])))
  .ret))
theorem fit_kit_IsDigits : fits Tryz.prog 77 Tryz.f77 sc_kit_IsDigits [.t 2] 1 = true := by kernel_rfl

/-- interchange/kit.Outside -/
def sc_kit_Outside : SC :=
  (.seq (.reg [.r 6 (.mv (.c (.d (.bool false))))])
  (.seq (.reg (.r 7 (.mv (.t 0)) :: .r 8 (.mv (.t 1)) :: .r 9 (.bin .lss (.t 7) (.t 8)) :: .r 10 (.mv (.t 9)) :: gapp [11, 12, 13] 10 false (.r 11 (.mv (.t 0)) :: .r 12 (.mv (.t 2)) :: .r 13 (.bin .gtr (.t 11) (.t 12)) :: []) (.r 14 (.pick (.t 10) (.c (.d (.bool true))) (.t 13)) :: .r 6 (.mv (.t 14)) :: [])))
  .ret))
theorem fit_kit_Outside : fits Tryz.prog 42 Tryz.f42 sc_kit_Outside [.t 6] 3 = true := by kernel_rfl

/-- interchange/wire.TextAt -/
def sc_wire_TextAt : SC :=
  (.seq (.reg [.r 2 (.boxI (.t 0)),
     .r 3 (.boxI (.t 1)),
     .r 4 (.mv (.c (.d (.str [])))),
     .r 5 (.mv (.c (.d (.bool false))))])
  (.seq (.seq (.reg [.r 7 (.fld 0 (.t 3)),
     .o 8 (.ld1 (.t 7)),
     .r 9 (.fld 1 (.t 2)),
     .o 10 (.ld1 (.t 9)),
     .r 11 (.len (.t 10)),
     .r 12 (.bin .gtr (.t 8) (.t 11))])
  (.cond (.t 12)
    (.seq (.reg [.r 4 (.mv (.c (.d (.str [])))),
       .r 5 (.mv (.c (.d (.bool false))))])
    .ret)
    .skip))
  (.seq (.reg [.r 13 (.fld 1 (.t 2)),
     .o 14 (.ld1 (.t 13)),
     .r 15 (.fld 0 (.t 3)),
     .o 16 (.ld1 (.t 15)),
     .r 17 (.bin .sub (.t 16) (.c (.d (.int .i64 1)))),
     .r 18 (.idx 1 (.t 14) (.t 17)),
     .r 19 (.fld 0 (.t 18)),
     .o 20 (.ld1 (.t 19)),
     .r 6 (.mv (.t 20))])
  (.seq (.seq (.regD (.r 21 (.fld 1 (.t 3)) :: .r 22 (.ld1 (.t 21)) :: .r 23 (.mv (.t 6)) :: .r 24 (.len (.t 23)) :: .r 25 (.bin .gtr (.t 22) (.t 24)) :: .r 26 (.mv (.t 25)) :: gapp [27, 28, 29, 30, 31, 32, 33, 34, 35, 36] 26 false (.r 27 (.fld 2 (.t 3)) :: .r 28 (.ld1 (.t 27)) :: .r 29 (.mv (.t 6)) :: .r 30 (.fld 1 (.t 3)) :: .r 31 (.ld1 (.t 30)) :: .r 32 (.bin .sub (.t 31) (.c (.d (.int .i64 1)))) :: .r 33 (.idx 1 (.t 29) (.t 32)) :: .r 34 (.ld1 (.t 33)) :: .r 35 (.len (.t 34)) :: .r 36 (.bin .gtr (.t 28) (.t 35)) :: []) (.r 37 (.pick (.t 26) (.c (.d (.bool true))) (.t 36)) :: [])))
  (.cond (.t 37)
    (.seq (.reg [.r 4 (.mv (.c (.d (.str [])))),
       .r 5 (.mv (.c (.d (.bool false))))])
    .ret)
    .skip))
  (.seq (.regD [.r 38 (.mv (.t 6)),
     .r 39 (.fld 1 (.t 3)),
     .r 40 (.ld1 (.t 39)),
     .r 41 (.bin .sub (.t 40) (.c (.d (.int .i64 1)))),
     .r 42 (.idx 1 (.t 38) (.t 41)),
     .r 43 (.ld1 (.t 42)),
     .r 44 (.fld 2 (.t 3)),
     .r 45 (.ld1 (.t 44)),
     .r 46 (.bin .sub (.t 45) (.c (.d (.int .i64 1)))),
     .r 47 (.idx 1 (.t 43) (.t 46)),
     .r 48 (.ld1 (.t 47)),
     .r 4 (.mv (.t 48)),
     .r 5 (.mv (.c (.d (.bool true))))])
  .ret)))))
theorem fit_wire_TextAt : fits Tryz.prog 76 Tryz.f76 sc_wire_TextAt [.t 4, .t 5] 2 = true := by kernel_rfl

/-- interchange/wire.heads -/
def sc_wire_heads : SC :=
  (.seq (.reg [.r 0 (.mv (.c (.nils)))])
  (.seq (.reg [.r 1 (.bslice 1 [.c (.d (.str [73, 72, 68])), .c (.d (.str [71, 72, 68])), .c (.d (.str [77, 72, 68]))]),
     .r 0 (.mv (.t 1))])
  .ret))
theorem fit_wire_heads : fits Tryz.prog 23 Tryz.f23 sc_wire_heads [.t 0] 0 = true := by kernel_rfl

/-- interchange/wire.tails -/
def sc_wire_tails : SC :=
  (.seq (.reg [.r 0 (.mv (.c (.nils)))])
  (.seq (.reg [.r 1 (.bslice 1 [.c (.d (.str [73, 84, 82])), .c (.d (.str [71, 84, 82])), .c (.d (.str [77, 84, 82]))]),
     .r 0 (.mv (.t 1))])
  .ret))
theorem fit_wire_tails : fits Tryz.prog 25 Tryz.f25 sc_wire_tails [.t 0] 0 = true := by kernel_rfl

set_option maxRecDepth 100000 in
set_option maxHeartbeats 40000000 in
noncomputable def sims_GA_0_0 : (∀ (x0 : Tapi_Segment), {m : Option ((List (List UInt8)) × Bool) // ∀ r, m = some r → PureSpec Tryz.prog 55 [.agg (rTapi_Segment x0)] (.tup [.slice (List.map rowS r.1), .bool r.2])}) × (∀ (x0 : List UInt8), {m : Option (Bool) // ∀ r, m = some r → PureSpec Tryz.prog 39 [.str x0] (.bool r)}) × (∀ (x0 : List UInt8), {m : Option (Bool) // ∀ r, m = some r → PureSpec Tryz.prog 40 [.str x0] (.bool r)}) × (∀ (x0 : List UInt8), {m : Option (Bool) // ∀ r, m = some r → PureSpec Tryz.prog 77 [.str x0] (.bool r)}) × (∀ (x0 : Int) (x1 : Int) (x2 : Int), {m : Option (Bool) // ∀ r, m = some r → PureSpec Tryz.prog 42 [.int .i64 x0, .int .i64 x1, .int .i64 x2] (.bool r)}) × (∀ (x0 : Tapi_Segment) (x1 : Tapi_Spot), {m : Option ((List UInt8) × Bool) // ∀ r, m = some r → PureSpec Tryz.prog 76 [.agg (rTapi_Segment x0), .agg (rTapi_Spot x1)] (.tup [.str r.1, .bool r.2])}) × ({m : Option ((List (List UInt8))) // ∀ r, m = some r → PureSpec Tryz.prog 23 [] (.slice (List.map rowS r))}) × ({m : Option ((List (List UInt8))) // ∀ r, m = some r → PureSpec Tryz.prog 25 [] (.slice (List.map rowS r))}) := by
  refine ⟨?g0, ?g1, ?g2, ?g3, ?g4, ?g5, ?g6, ?g7⟩
  case' g0 => (intro x0; apply Subtype.mk; intro r hm; apply pure_walk Tryz.func55 fit_wire_texts; unfold sc_wire_texts)
  case' g1 => (intro x0; apply Subtype.mk; intro r hm; apply pure_walk Tryz.func39 fit_kit_IsRef; unfold sc_kit_IsRef)
  case' g2 => (intro x0; apply Subtype.mk; intro r hm; apply pure_walk Tryz.func40 fit_kit_IsName; unfold sc_kit_IsName)
  case' g3 => (intro x0; apply Subtype.mk; intro r hm; apply pure_walk Tryz.func77 fit_kit_IsDigits; unfold sc_kit_IsDigits)
  case' g4 => (intro x0 x1 x2; apply Subtype.mk; intro r hm; apply pure_walk Tryz.func42 fit_kit_Outside; unfold sc_kit_Outside)
  case' g5 => (intro x0 x1; apply Subtype.mk; intro r hm; apply pure_walk Tryz.func76 fit_wire_TextAt; unfold sc_wire_TextAt)
  case' g6 => (apply Subtype.mk; intro r hm; apply pure_walk Tryz.func23 fit_wire_heads; unfold sc_wire_heads)
  case' g7 => (apply Subtype.mk; intro r hm; apply pure_walk Tryz.func25 fit_wire_tails; unfold sc_wire_tails)
  all_goals (repeat' (first | with_reducible refine W_seq ?_ | with_reducible refine W_reg ?_ | with_reducible refine W_regD ?_ | with_reducible refine W_block ?_ | with_reducible refine W_skip ?_ | with_reducible refine W_ret ?_ | with_reducible refine W_exit ?_ | with_reducible refine O_nil ?_ | with_reducible refine K_seq ?_ | with_reducible refine K_seqE ?_ | with_reducible refine K_seqR ?_ | with_reducible refine K_block ?_ | with_reducible refine K_blockR ?_ | with_reducible refine O_o2r ?_ | ((with_reducible apply O_idxr hm); (iterate 2 (simp only [push_cast, seval]; rfl)); (intro _; rfl); intro e hm) | ((with_reducible apply O_sidxr hm); (iterate 2 (simp only [push_cast, seval]; rfl)); intro e hm) | ((with_reducible apply O_r); (simp only [push_cast, seval]; rfl); (first | exact trivial)) | ((with_reducible apply O_and hm); (simp only [push_cast, seval]; rfl); rfl; intro v hm; rotate_left; intro v g hm) | ((with_reducible apply O_or hm); (simp only [push_cast, seval]; rfl); rfl; intro v hm; rotate_left; intro v g hm) | ((with_reducible apply O_cF hm); (simp only [push_cast, seval]; rfl); (first | apply spec_strings_Trim _ _ | apply spec_kit_InBytes _ _ _); (any_goals ((repeat' (first | rfl | (with_reducible first | apply f_cons) | (with_reducible apply f_byte; decide))); done)); intro x hm) | ((with_reducible apply O_w); (simp only [push_cast, seval]; rfl); (first | exact trivial)) | ((with_reducible apply O_appV hm); (iterate 4 (simp only [push_cast, seval]; rfl)); (focus ((repeat' (first | rfl | (with_reducible first | apply dv_slice | apply fold_nil | apply fold_cons))); done)); decide; (intro _; rfl); intro hm) | ((with_reducible apply S_condB hm); (simp only [push_cast, seval]; rfl); intro hm; rotate_left; intro hm) | ((with_reducible apply K_end2 hm); (focus (simp only [resOf, resL, RV.get, push_cast, seval]; rfl)); (focus (first | (dsimp only; done))); (focus ((repeat' (first | rfl | (with_reducible first | apply f_tup | apply dv_slice | apply f_cons | apply fold_nil))); done))) | ((with_reducible apply K_endS hm); (focus (simp only [resOf, resL, RV.get, push_cast, seval]; rfl)); (focus ((repeat' (first | rfl | (with_reducible first | apply dv_slice | apply fold_nil | apply fold_cons))); done))) | ((with_reducible apply K_bool hm); (simp only [push_cast, seval]; rfl)) | ((with_reducible apply K_leave hm); intro r hm) | ((with_reducible apply K_leaveR hm); intro r hm) | ((apply S_loopY (b := 0) (X := sc_wire_texts_B1) (x := sc_wire_texts_L1) rfl (fun (c : SV × SV) (s : (List (List UInt8)) × Int) => st [(4, .vec 4), (8, c.1), (9, c.2), (10, .d (.int .i64 s.2))] [(4, .vec 9 1 (vrow rowS s.1))]) (c := (_, _)) (s0 := (_, _)) hm); (focus (first | (dsimp only; done))); (with_reducible refine Then.mk ?_ ?_); apply Imp.trans; (focus (apply imp_vecnil (slot := 4) (id := 4) (e := 9) (sz := 1); (focus (simp only [push_cast, seval]; done))))) | ((apply K_next (s' := (_, _)) hm); (focus (first | (dsimp only; done)))) | ((apply K_brk (s' := (_, _)) hm); (focus (first | (dsimp only; done)))) | (((with_reducible apply K_brkR hm); intro r hm)) | (((with_reducible apply LoopB.of); (focus (first | (dsimp only; done))); (focus ((intro _; repeat' (first | with_reducible exact impC_end | with_reducible refine impC_seq ?_)))); (intro s o hm; first | unfold sc_wire_texts_L1); rotate_left; intro s hm)) | (((apply imp_stT; (repeat' (first | with_reducible exact keepT_nil | with_reducible exact keepC_nil | with_reducible apply keepT_cons | with_reducible apply keepC_cons | ((with_reducible apply svle_eq); (focus (first | (simp only [push_cast, seval]; rfl))); (focus ((repeat' (first | rfl)); done))) | ((with_reducible apply chle_eq); (focus (first | (simp only [push_cast, seval]; rfl))); (first | with_reducible exact chle_rfl rfl | with_reducible apply chle_vec)) | (with_reducible first | apply r_nil))); done)))))
noncomputable def m_wire_texts (x0 : Tapi_Segment) : Option ((List (List UInt8)) × Bool) := (sims_GA_0_0.1 x0).1
theorem spec_wire_texts (x0 : Tapi_Segment) : ∀ r, m_wire_texts x0 = some r → PureSpec Tryz.prog 55 [.agg (rTapi_Segment x0)] (.tup [.slice (List.map rowS r.1), .bool r.2]) := (sims_GA_0_0.1 x0).2
noncomputable def m_kit_IsRef (x0 : List UInt8) : Option (Bool) := (sims_GA_0_0.2.1 x0).1
theorem spec_kit_IsRef (x0 : List UInt8) : ∀ r, m_kit_IsRef x0 = some r → PureSpec Tryz.prog 39 [.str x0] (.bool r) := (sims_GA_0_0.2.1 x0).2
noncomputable def m_kit_IsName (x0 : List UInt8) : Option (Bool) := (sims_GA_0_0.2.2.1 x0).1
theorem spec_kit_IsName (x0 : List UInt8) : ∀ r, m_kit_IsName x0 = some r → PureSpec Tryz.prog 40 [.str x0] (.bool r) := (sims_GA_0_0.2.2.1 x0).2
noncomputable def m_kit_IsDigits (x0 : List UInt8) : Option (Bool) := (sims_GA_0_0.2.2.2.1 x0).1
theorem spec_kit_IsDigits (x0 : List UInt8) : ∀ r, m_kit_IsDigits x0 = some r → PureSpec Tryz.prog 77 [.str x0] (.bool r) := (sims_GA_0_0.2.2.2.1 x0).2
noncomputable def m_kit_Outside (x0 : Int) (x1 : Int) (x2 : Int) : Option (Bool) := (sims_GA_0_0.2.2.2.2.1 x0 x1 x2).1
theorem spec_kit_Outside (x0 : Int) (x1 : Int) (x2 : Int) : ∀ r, m_kit_Outside x0 x1 x2 = some r → PureSpec Tryz.prog 42 [.int .i64 x0, .int .i64 x1, .int .i64 x2] (.bool r) := (sims_GA_0_0.2.2.2.2.1 x0 x1 x2).2
noncomputable def m_wire_TextAt (x0 : Tapi_Segment) (x1 : Tapi_Spot) : Option ((List UInt8) × Bool) := (sims_GA_0_0.2.2.2.2.2.1 x0 x1).1
theorem spec_wire_TextAt (x0 : Tapi_Segment) (x1 : Tapi_Spot) : ∀ r, m_wire_TextAt x0 x1 = some r → PureSpec Tryz.prog 76 [.agg (rTapi_Segment x0), .agg (rTapi_Spot x1)] (.tup [.str r.1, .bool r.2]) := (sims_GA_0_0.2.2.2.2.2.1 x0 x1).2
noncomputable def m_wire_heads : Option ((List (List UInt8))) := (sims_GA_0_0.2.2.2.2.2.2.1 ).1
theorem spec_wire_heads : ∀ r, m_wire_heads  = some r → PureSpec Tryz.prog 23 [] (.slice (List.map rowS r)) := (sims_GA_0_0.2.2.2.2.2.2.1 ).2
noncomputable def m_wire_tails : Option ((List (List UInt8))) := (sims_GA_0_0.2.2.2.2.2.2.2 ).1
theorem spec_wire_tails : ∀ r, m_wire_tails  = some r → PureSpec Tryz.prog 25 [] (.slice (List.map rowS r)) := (sims_GA_0_0.2.2.2.2.2.2.2 ).2

/-- interchange/kit.Number -/
def sc_kit_Number : SC :=
  (.seq (.reg [.r 4 (.mv (.c (.d (.int .i64 0)))),
     .r 5 (.mv (.c (.d (.bool false))))])
  (.seq (.seq (.reg (.r 8 (.mv (.t 0)) :: .r 9 (.lenT (.t 8)) :: .r 10 (.mv (.t 1)) :: .r 11 (.bin .gtr (.t 9) (.t 10)) :: .r 12 (.mv (.t 11)) :: gapp [13, 14, 15] 12 false (.r 13 (.mv (.t 0)) :: .c 14 (.f 77) [.t 13] :: .r 15 (.not (.t 14)) :: []) (.r 16 (.pick (.t 12) (.c (.d (.bool true))) (.t 15)) :: .r 17 (.mv (.t 16)) :: gapp [18, 19, 20, 21, 22, 23, 24, 25] 17 false (.r 18 (.mv (.t 0)) :: .r 19 (.lenT (.t 18)) :: .r 20 (.bin .gtr (.t 19) (.c (.d (.int .i64 1)))) :: .r 21 (.mv (.t 20)) :: gapp [22, 23, 24] 21 true (.r 22 (.mv (.t 0)) :: .r 23 (.sidx (.t 22) (.c (.d (.int .i64 0)))) :: .r 24 (.bin .eql (.t 23) (.c (.d (.int .u8 48)))) :: []) (.r 25 (.pick (.t 21) (.t 24) (.c (.d (.bool false)))) :: [])) (.r 26 (.pick (.t 17) (.c (.d (.bool true))) (.t 25)) :: []))))
  (.cond (.t 26)
    (.seq (.reg [.r 4 (.mv (.c (.d (.int .i64 0)))),
       .r 5 (.mv (.c (.d (.bool false))))])
    .ret)
    .skip))
  (.seq (.reg [.r 28 (.mv (.t 0)),
     .c 29 (.f 78) [.t 28],
     .r 27 (.mv (.t 29)),
     .r 30 (.ext (.t 27) 0),
     .r 31 (.ext (.t 27) 1),
     .r 6 (.mv (.t 30)),
     .r 7 (.mv (.t 31))])
  (.seq (.regD [.r 32 (.mv (.t 6)),
     .r 33 (.mv (.t 7)),
     .r 34 (.binI .eql (.t 33) (.c (.d (.raw .nilIface)))),
     .r 4 (.mv (.t 32)),
     .r 5 (.mv (.t 34))])
  .ret))))
theorem fit_kit_Number : fits Tryz.prog 56 Tryz.f56 sc_kit_Number [.t 4, .t 5] 2 = true := by kernel_rfl

/-- interchange/kit.IsDay -/
def sc_kit_IsDay : SC :=
  (.seq (.reg [.r 2 (.mv (.c (.d (.bool false))))])
  (.seq (.reg [.r 3 (.mv (.t 0)),
     .c 4 (.f 42) [.t 3, .c (.d (.int .i64 1)), .c (.d (.int .i64 3652059))],
     .r 5 (.not (.t 4)),
     .r 2 (.mv (.t 5))])
  .ret))
theorem fit_kit_IsDay : fits Tryz.prog 41 Tryz.f41 sc_kit_IsDay [.t 2] 1 = true := by kernel_rfl

/-- interchange/wire.first -/
def sc_wire_first : SC :=
  (.seq (.reg [.r 1 (.boxI (.t 0)),
     .r 2 (.mv (.c (.d (.str []))))])
  (.seq (.reg [.o 6 (.ldA 2 (.t 1)),
     .r 7 (.build [.d (.int .i64 0), .d (.int .i64 0), .d (.int .i64 0)] [(0, 1, .c (.d (.int .i64 1))), (1, 1, .c (.d (.int .i64 1))), (2, 1, .c (.d (.int .i64 1)))]),
     .c 8 (.f 76) [.t 6, .t 7],
     .r 5 (.mv (.t 8)),
     .r 9 (.ext (.t 5) 0),
     .r 10 (.ext (.t 5) 1),
     .r 3 (.mv (.t 9)),
     .r 4 (.mv (.t 10))])
  (.seq (.reg [.r 11 (.mv (.t 3)),
     .r 2 (.mv (.t 11))])
  .ret)))
theorem fit_wire_first : fits Tryz.prog 52 Tryz.f52 sc_wire_first [.t 2] 1 = true := by kernel_rfl

/-- interchange/wire.hasRef -/
def sc_wire_hasRef : SC :=
  (.seq (.reg [.r 1 (.boxI (.t 0)),
     .r 2 (.mv (.c (.d (.bool false))))])
  (.seq (.seq (.reg [.r 5 (.fld 1 (.t 1)),
     .o 6 (.ld1 (.t 5)),
     .r 7 (.len (.t 6)),
     .r 8 (.bin .eql (.t 7) (.c (.d (.int .i64 0))))])
  (.cond (.t 8)
    (.seq (.reg [.r 2 (.mv (.c (.d (.bool false))))])
    .ret)
    .skip))
  (.seq (.reg [.r 10 (.fld 1 (.t 1)),
     .o 11 (.ld1 (.t 10)),
     .r 12 (.slc 1 (.t 11) none (some (.c (.d (.int .i64 1))))),
     .r 13 (.build [.d (.str []), .nils] [(1, 1, .t 12)]),
     .c 14 (.f 55) [.t 13],
     .r 9 (.mv (.t 14)),
     .r 15 (.ext (.t 9) 0),
     .r 16 (.ext (.t 9) 1),
     .r 3 (.mv (.t 15)),
     .r 4 (.mv (.t 16))])
  (.seq (.reg (.r 17 (.mv (.t 4)) :: .r 18 (.mv (.t 17)) :: gapp [19, 20, 21, 22] 18 true (.r 19 (.mv (.t 3)) :: .r 20 (.idx 1 (.t 19) (.c (.d (.int .i64 0)))) :: .r 21 (.ld1 (.t 20)) :: .c 22 (.f 39) [.t 21] :: []) (.r 23 (.pick (.t 18) (.t 22) (.c (.d (.bool false)))) :: .r 2 (.mv (.t 23)) :: [])))
  .ret))))
theorem fit_wire_hasRef : fits Tryz.prog 54 Tryz.f54 sc_wire_hasRef [.t 2] 1 = true := by kernel_rfl

set_option maxRecDepth 100000 in
set_option maxHeartbeats 40000000 in
noncomputable def sims_GA_1_0 : (∀ (x0 : List UInt8) (x1 : Int), {m : Option (Int × Bool) // ∀ r, m = some r → PureSpec Tryz.prog 56 [.str x0, .int .i64 x1] (.tup [.int .i64 r.1, .bool r.2])}) × (∀ (x0 : Int), {m : Option (Bool) // ∀ r, m = some r → PureSpec Tryz.prog 41 [.int .i64 x0] (.bool r)}) × (∀ (x0 : Tapi_Segment), {m : Option ((List UInt8)) // ∀ r, m = some r → PureSpec Tryz.prog 52 [.agg (rTapi_Segment x0)] (.str r)}) × (∀ (x0 : Tapi_Segment), {m : Option (Bool) // ∀ r, m = some r → PureSpec Tryz.prog 54 [.agg (rTapi_Segment x0)] (.bool r)}) := by
  refine ⟨?g0, ?g1, ?g2, ?g3⟩
  case' g0 => (intro x0 x1; apply Subtype.mk; intro r hm; apply pure_walk Tryz.func56 fit_kit_Number; unfold sc_kit_Number)
  case' g1 => (intro x0; apply Subtype.mk; intro r hm; apply pure_walk Tryz.func41 fit_kit_IsDay; unfold sc_kit_IsDay)
  case' g2 => (intro x0; apply Subtype.mk; intro r hm; apply pure_walk Tryz.func52 fit_wire_first; unfold sc_wire_first)
  case' g3 => (intro x0; apply Subtype.mk; intro r hm; apply pure_walk Tryz.func54 fit_wire_hasRef; unfold sc_wire_hasRef)
  all_goals (repeat' (first | with_reducible refine W_seq ?_ | with_reducible refine W_reg ?_ | with_reducible refine W_regD ?_ | with_reducible refine W_skip ?_ | with_reducible refine W_ret ?_ | with_reducible refine O_nil ?_ | with_reducible refine K_seq ?_ | with_reducible refine K_seqR ?_ | with_reducible refine O_o2r ?_ | ((with_reducible apply O_idxr hm); (iterate 2 (simp only [push_cast, seval]; rfl)); (intro _; rfl); intro e hm) | ((with_reducible apply O_sidxr hm); (iterate 2 (simp only [push_cast, seval]; rfl)); intro e hm) | ((with_reducible apply O_slcr hm); (iterate 3 (simp only [push_cast, seval]; rfl)); (intro _; rfl); intro e hm) | ((with_reducible apply O_r); (simp only [push_cast, seval]; rfl); (first | exact trivial)) | ((with_reducible apply O_and hm); (simp only [push_cast, seval]; rfl); rfl; intro v hm; rotate_left; intro v g hm) | ((with_reducible apply O_or hm); (simp only [push_cast, seval]; rfl); rfl; intro v hm; rotate_left; intro v g hm) | ((with_reducible apply O_cF hm); (simp only [push_cast, seval]; rfl); (first | apply spec_kit_IsDigits _ | apply spec_strconv_Atoi _ | apply spec_kit_Outside _ _ _ | apply spec_wire_TextAt _ _ | apply spec_wire_texts _ | apply spec_kit_IsRef _); (any_goals ((repeat' (first | rfl | (with_reducible first | apply fT_Tapi_Segment | apply fT_Tapi_Spot | apply f_agg | apply f_cons))); done)); intro x hm) | ((with_reducible apply S_condB hm); (simp only [push_cast, seval]; rfl); intro hm; rotate_left; intro hm) | ((with_reducible apply K_end2 hm); (focus (simp only [resOf, resL, RV.get, push_cast, seval]; rfl)); (focus (first | (dsimp only; done))); (focus ((repeat' (first | rfl)); done))) | ((with_reducible apply K_endS hm); (focus (simp only [resOf, resL, RV.get, push_cast, seval]; rfl)); (focus ((repeat' (first | rfl)); done))) | ((with_reducible apply K_bool hm); (simp only [push_cast, seval]; rfl))))
noncomputable def m_kit_Number (x0 : List UInt8) (x1 : Int) : Option (Int × Bool) := (sims_GA_1_0.1 x0 x1).1
theorem spec_kit_Number (x0 : List UInt8) (x1 : Int) : ∀ r, m_kit_Number x0 x1 = some r → PureSpec Tryz.prog 56 [.str x0, .int .i64 x1] (.tup [.int .i64 r.1, .bool r.2]) := (sims_GA_1_0.1 x0 x1).2
noncomputable def m_kit_IsDay (x0 : Int) : Option (Bool) := (sims_GA_1_0.2.1 x0).1
theorem spec_kit_IsDay (x0 : Int) : ∀ r, m_kit_IsDay x0 = some r → PureSpec Tryz.prog 41 [.int .i64 x0] (.bool r) := (sims_GA_1_0.2.1 x0).2
noncomputable def m_wire_first (x0 : Tapi_Segment) : Option ((List UInt8)) := (sims_GA_1_0.2.2.1 x0).1
theorem spec_wire_first (x0 : Tapi_Segment) : ∀ r, m_wire_first x0 = some r → PureSpec Tryz.prog 52 [.agg (rTapi_Segment x0)] (.str r) := (sims_GA_1_0.2.2.1 x0).2
noncomputable def m_wire_hasRef (x0 : Tapi_Segment) : Option (Bool) := (sims_GA_1_0.2.2.2 x0).1
theorem spec_wire_hasRef (x0 : Tapi_Segment) : ∀ r, m_wire_hasRef x0 = some r → PureSpec Tryz.prog 54 [.agg (rTapi_Segment x0)] (.bool r) := (sims_GA_1_0.2.2.2 x0).2

/-- interchange/wire.isHead -/
def sc_wire_isHead : SC :=
  (.seq (.reg [.r 1 (.boxI (.t 0)),
     .r 2 (.mv (.c (.d (.bool false))))])
  (.seq (.reg [.o 10 (.ldA 2 (.t 1)),
     .c 11 (.f 55) [.t 10],
     .r 9 (.mv (.t 11)),
     .r 12 (.ext (.t 9) 0),
     .r 13 (.ext (.t 9) 1),
     .r 3 (.mv (.t 12)),
     .r 4 (.mv (.t 13))])
  (.seq (.seq (.reg (.r 14 (.mv (.t 4)) :: .r 15 (.not (.t 14)) :: .r 16 (.mv (.t 15)) :: gapp [17, 18, 19] 16 false (.r 17 (.mv (.t 3)) :: .r 18 (.len (.t 17)) :: .r 19 (.bin .eql (.t 18) (.c (.d (.int .i64 0)))) :: []) (.r 20 (.pick (.t 16) (.c (.d (.bool true))) (.t 19)) :: .r 21 (.mv (.t 20)) :: gapp [22, 23, 24, 25, 26] 21 false (.r 22 (.mv (.t 3)) :: .r 23 (.idx 1 (.t 22) (.c (.d (.int .i64 0)))) :: .r 24 (.ld1 (.t 23)) :: .c 25 (.f 39) [.t 24] :: .r 26 (.not (.t 25)) :: []) (.r 27 (.pick (.t 21) (.c (.d (.bool true))) (.t 26)) :: []))))
  (.cond (.t 27)
    (.seq (.reg [.r 2 (.mv (.c (.d (.bool false))))])
    .ret)
    .skip))
  (.seq (.seq (.reg [.r 28 (.fld 0 (.t 1)),
     .o 29 (.ld1 (.t 28))])
  (.block 0 (.seq (.reg [.r 31 (.bin .eql (.t 29) (.c (.d (.str [71, 72, 68])))),
       .r 30 (.mv (.t 31))])
    (.cond (.t 30)
      (.seq (.reg (.r 32 (.mv (.t 3)) :: .r 33 (.len (.t 32)) :: .r 34 (.bin .eql (.t 33) (.c (.d (.int .i64 2)))) :: .r 35 (.mv (.t 34)) :: gapp [36, 37, 38, 39] 35 true (.r 36 (.mv (.t 3)) :: .r 37 (.idx 1 (.t 36) (.c (.d (.int .i64 1)))) :: .r 38 (.ld1 (.t 37)) :: .c 39 (.f 40) [.t 38] :: []) (.r 40 (.pick (.t 35) (.t 39) (.c (.d (.bool false)))) :: .r 2 (.mv (.t 40)) :: [])))
      .ret)
      (.seq (.reg [.r 42 (.bin .eql (.t 29) (.c (.d (.str [77, 72, 68])))),
         .r 41 (.mv (.t 42))])
      (.cond (.t 41)
        (.seq (.reg (.r 43 (.mv (.t 3)) :: .r 44 (.len (.t 43)) :: .r 45 (.bin .eql (.t 44) (.c (.d (.int .i64 3)))) :: .r 46 (.mv (.t 45)) :: gapp [47, 48, 49, 50] 46 true (.r 47 (.mv (.t 3)) :: .r 48 (.idx 1 (.t 47) (.c (.d (.int .i64 1)))) :: .r 49 (.ld1 (.t 48)) :: .c 50 (.f 40) [.t 49] :: []) (.r 51 (.pick (.t 46) (.t 50) (.c (.d (.bool false)))) :: .r 52 (.mv (.t 51)) :: gapp [53, 54, 55, 56] 52 true (.r 53 (.mv (.t 3)) :: .r 54 (.idx 1 (.t 53) (.c (.d (.int .i64 2)))) :: .r 55 (.ld1 (.t 54)) :: .c 56 (.f 40) [.t 55] :: []) (.r 57 (.pick (.t 52) (.t 56) (.c (.d (.bool false)))) :: .r 2 (.mv (.t 57)) :: []))))
        .ret)
        .skip))))))
  (.seq (.seq (.reg (.r 58 (.mv (.t 3)) :: .r 59 (.len (.t 58)) :: .r 60 (.bin .neq (.t 59) (.c (.d (.int .i64 6)))) :: .r 61 (.mv (.t 60)) :: gapp [62, 63, 64, 65, 66] 61 false (.r 62 (.mv (.t 3)) :: .r 63 (.idx 1 (.t 62) (.c (.d (.int .i64 1)))) :: .r 64 (.ld1 (.t 63)) :: .c 65 (.f 40) [.t 64] :: .r 66 (.not (.t 65)) :: []) (.r 67 (.pick (.t 61) (.c (.d (.bool true))) (.t 66)) :: .r 68 (.mv (.t 67)) :: gapp [69, 70, 71, 72, 73] 68 false (.r 69 (.mv (.t 3)) :: .r 70 (.idx 1 (.t 69) (.c (.d (.int .i64 2)))) :: .r 71 (.ld1 (.t 70)) :: .c 72 (.f 40) [.t 71] :: .r 73 (.not (.t 72)) :: []) (.r 74 (.pick (.t 68) (.c (.d (.bool true))) (.t 73)) :: .r 75 (.mv (.t 74)) :: gapp [76, 77, 78, 79, 80, 81, 82, 83, 84, 85] 75 false (.r 76 (.mv (.t 3)) :: .r 77 (.idx 1 (.t 76) (.c (.d (.int .i64 5)))) :: .r 78 (.ld1 (.t 77)) :: .r 79 (.bin .neq (.t 78) (.c (.d (.str [])))) :: .r 80 (.mv (.t 79)) :: gapp [81, 82, 83, 84] 80 true (.r 81 (.mv (.t 3)) :: .r 82 (.idx 1 (.t 81) (.c (.d (.int .i64 5)))) :: .r 83 (.ld1 (.t 82)) :: .r 84 (.bin .neq (.t 83) (.c (.d (.str [49])))) :: []) (.r 85 (.pick (.t 80) (.t 84) (.c (.d (.bool false)))) :: [])) (.r 86 (.pick (.t 75) (.c (.d (.bool true))) (.t 85)) :: [])))))
  (.cond (.t 86)
    (.seq (.reg [.r 2 (.mv (.c (.d (.bool false))))])
    .ret)
    .skip))
  (.seq (.reg [.r 88 (.mv (.t 3)),
     .r 89 (.idx 1 (.t 88) (.c (.d (.int .i64 3)))),
     .o 90 (.ld1 (.t 89)),
     .c 91 (.f 56) [.t 90, .c (.d (.int .i64 9))],
     .r 87 (.mv (.t 91)),
     .r 92 (.ext (.t 87) 0),
     .r 93 (.ext (.t 87) 1),
     .r 5 (.mv (.t 92)),
     .r 6 (.mv (.t 93))])
  (.seq (.reg [.r 95 (.mv (.t 3)),
     .r 96 (.idx 1 (.t 95) (.c (.d (.int .i64 4)))),
     .o 97 (.ld1 (.t 96)),
     .c 98 (.f 56) [.t 97, .c (.d (.int .i64 9))],
     .r 94 (.mv (.t 98)),
     .r 99 (.ext (.t 94) 0),
     .r 100 (.ext (.t 94) 1),
     .r 7 (.mv (.t 99)),
     .r 8 (.mv (.t 100))])
  (.seq (.reg (.r 101 (.mv (.t 6)) :: .r 102 (.mv (.t 101)) :: gapp [103] 102 true (.r 103 (.mv (.t 8)) :: []) (.r 104 (.pick (.t 102) (.t 103) (.c (.d (.bool false)))) :: .r 105 (.mv (.t 104)) :: gapp [106, 107] 105 true (.r 106 (.mv (.t 5)) :: .c 107 (.f 41) [.t 106] :: []) (.r 108 (.pick (.t 105) (.t 107) (.c (.d (.bool false)))) :: .r 109 (.mv (.t 108)) :: gapp [110, 111, 112] 109 true (.r 110 (.mv (.t 7)) :: .c 111 (.f 42) [.t 110, .c (.d (.int .i64 0)), .c (.d (.int .i64 86399))] :: .r 112 (.not (.t 111)) :: []) (.r 113 (.pick (.t 109) (.t 112) (.c (.d (.bool false)))) :: .r 2 (.mv (.t 113)) :: [])))))
  .ret))))))))
theorem fit_wire_isHead : fits Tryz.prog 53 Tryz.f53 sc_wire_isHead [.t 2] 1 = true := by kernel_rfl

set_option maxRecDepth 100000 in
set_option maxHeartbeats 40000000 in
noncomputable def sims_GA_2_0 : (∀ (x0 : Tapi_Segment), {m : Option (Bool) // ∀ r, m = some r → PureSpec Tryz.prog 53 [.agg (rTapi_Segment x0)] (.bool r)}) := by
  (intro x0; apply Subtype.mk; intro r hm; apply pure_walk Tryz.func53 fit_wire_isHead; unfold sc_wire_isHead)
  repeat' (first | with_reducible refine W_seq ?_ | with_reducible refine W_reg ?_ | with_reducible refine W_block ?_ | with_reducible refine W_skip ?_ | with_reducible refine W_ret ?_ | with_reducible refine O_nil ?_ | with_reducible refine K_seq ?_ | with_reducible refine K_seqR ?_ | with_reducible refine K_block ?_ | with_reducible refine K_blockR ?_ | with_reducible refine O_o2r ?_ | ((with_reducible apply O_idxr hm); (iterate 2 (simp only [push_cast, seval]; rfl)); (intro _; rfl); intro e hm) | ((with_reducible apply O_r); (simp only [push_cast, seval]; rfl); (first | exact trivial)) | ((with_reducible apply O_and hm); (simp only [push_cast, seval]; rfl); rfl; intro v hm; rotate_left; intro v g hm) | ((with_reducible apply O_or hm); (simp only [push_cast, seval]; rfl); rfl; intro v hm; rotate_left; intro v g hm) | ((with_reducible apply O_cF hm); (simp only [push_cast, seval]; rfl); (first | apply spec_wire_texts _ | apply spec_kit_IsRef _ | apply spec_kit_IsName _ | apply spec_kit_Number _ _ | apply spec_kit_IsDay _ | apply spec_kit_Outside _ _ _); (any_goals ((repeat' (first | rfl)); done)); intro x hm) | ((with_reducible apply S_condB hm); (simp only [push_cast, seval]; rfl); intro hm; rotate_left; intro hm) | ((with_reducible apply K_endS hm); (focus (simp only [resOf, resL, RV.get, push_cast, seval]; rfl)); (focus ((repeat' (first | rfl)); done))) | ((with_reducible apply K_bool hm); (simp only [push_cast, seval]; rfl)))
noncomputable def m_wire_isHead (x0 : Tapi_Segment) : Option (Bool) := (sims_GA_2_0 x0).1
theorem spec_wire_isHead (x0 : Tapi_Segment) : ∀ r, m_wire_isHead x0 = some r → PureSpec Tryz.prog 53 [.agg (rTapi_Segment x0)] (.bool r) := (sims_GA_2_0 x0).2

end Go.Proofs.YtcnohbiegjahkaaGreatDoor

/-
  Bodies of functions and what they compute, printed by programs of mine (wip/tool/gen.py, sc.py) out of the translation; the kernel holds each against the translation.
-/
namespace Go.Proofs.YtcnohbiegjahkaaGreatDoor
open Go.RowKit
set_option linter.unusedSimpArgs false
set_option linter.unusedVariables false
def sc_interchangeref2_texts_L1 : SC :=
  (.seq (.seq (.reg [.r 8 (.mv (.t 6)),
     .r 9 (.fld 1 (.t 1)),
     .o 10 (.ld1 (.t 9)),
     .r 11 (.len (.t 10)),
     .r 12 (.bin .lss (.t 8) (.t 11))])
  (.cond (.t 12)
    .skip
    (.exit 0)))
  (.seq (.block 1 (.seq (.reg [.r 15 (.fld 1 (.t 1)),
       .o 16 (.ld1 (.t 15)),
       .r 17 (.mv (.t 6)),
       .r 18 (.idx 1 (.t 16) (.t 17)),
       .r 19 (.fld 0 (.t 18)),
       .o 20 (.ld1 (.t 19)),
       .r 7 (.mv (.t 20))])
    (.seq (.reg (.r 21 (.mv (.t 5)) :: .r 22 (.mv (.t 21)) :: gapp [23, 24, 25] 22 true (.r 23 (.mv (.t 7)) :: .r 24 (.len (.t 23)) :: .r 25 (.bin .eql (.t 24) (.c (.d (.int .i64 1)))) :: []) (.r 26 (.pick (.t 22) (.t 25) (.c (.d (.bool false)))) :: .r 27 (.mv (.t 26)) :: gapp [28, 29, 30, 31, 32] 27 true (.r 28 (.mv (.t 7)) :: .r 29 (.idx 1 (.t 28) (.c (.d (.int .i64 0)))) :: .r 30 (.ld1 (.t 29)) :: .r 31 (.len (.t 30)) :: .r 32 (.bin .eql (.t 31) (.c (.d (.int .i64 1)))) :: []) (.r 33 (.pick (.t 27) (.t 32) (.c (.d (.bool false)))) :: .r 5 (.mv (.t 33)) :: []))))
    (.reg [.r 34 (.mv (.t 4)),
       .r 35 (.mv (.t 7)),
       .r 36 (.idx 1 (.t 35) (.c (.d (.int .i64 0)))),
       .o 37 (.ld1 (.t 36)),
       .r 38 (.idx 1 (.t 37) (.c (.d (.int .i64 0)))),
       .o 39 (.ld1 (.t 38)),
       .r 40 (.bslice 1 [.t 39]),
       .w 41 (.app 9 1 (.t 34) (.t 40)),
       .r 4 (.mv (.t 41))]))))
  (.reg [.r 13 (.mv (.t 6)),
     .r 14 (.bin .add (.t 13) (.c (.d (.int .i64 1)))),
     .r 6 (.mv (.t 14))])))
def sc_interchangeref2_texts_B1 : SC := .block 0 (.loop sc_interchangeref2_texts_L1)
/-- interchange/interchangeref2.texts -/
def sc_interchangeref2_texts : SC :=
  (.seq (.reg [.r 1 (.boxI (.t 0)),
     .r 2 (.mv (.c (.nils))),
     .r 3 (.mv (.c (.d (.bool false))))])
  (.seq (.reg [.r 4 (.mv (.c (.nils)))])
  (.seq (.reg [.r 5 (.mv (.c (.d (.bool true))))])
  (.seq (.seq (.reg [.r 6 (.mv (.c (.d (.int .i64 0))))])
  sc_interchangeref2_texts_B1)
  (.seq (.reg [.r 42 (.mv (.t 4)),
     .r 43 (.mv (.t 5)),
     .r 2 (.mv (.t 42)),
     .r 3 (.mv (.t 43))])
  .ret)))))
theorem fit_interchangeref2_texts : fits Tryz.prog 63 Tryz.f63 sc_interchangeref2_texts [.t 2, .t 3] 1 = true := by kernel_rfl

def sc_interchangeref2_numbered_L1 : SC :=
  (.seq (.seq (.reg [.r 29 (.mv (.t 8)),
     .r 30 (.mv (.t 0)),
     .r 31 (.lenT (.t 30)),
     .r 32 (.bin .lss (.t 29) (.t 31))])
  (.cond (.t 32)
    .skip
    (.exit 0)))
  (.seq (.block 1 (.seq (.reg (.r 35 (.mv (.t 0)) :: .r 36 (.mv (.t 8)) :: .r 37 (.sidx (.t 35) (.t 36)) :: .r 38 (.bin .lss (.t 37) (.c (.d (.int .u8 48)))) :: .r 39 (.mv (.t 38)) :: gapp [40, 41, 42, 43] 39 false (.r 40 (.mv (.t 0)) :: .r 41 (.mv (.t 8)) :: .r 42 (.sidx (.t 40) (.t 41)) :: .r 43 (.bin .gtr (.t 42) (.c (.d (.int .u8 57)))) :: []) (.r 44 (.pick (.t 39) (.c (.d (.bool true))) (.t 43)) :: [])))
    (.cond (.t 44)
      (.seq (.reg [.r 6 (.mv (.c (.d (.int .i64 0)))),
         .r 7 (.mv (.c (.d (.bool false))))])
      .ret)
      .skip)))
  (.reg [.r 33 (.mv (.t 8)),
     .r 34 (.bin .add (.t 33) (.c (.d (.int .i64 1)))),
     .r 8 (.mv (.t 34))])))
def sc_interchangeref2_numbered_B1 : SC := .block 0 (.loop sc_interchangeref2_numbered_L1)
/-- interchange/interchangeref2.numbered -/
def sc_interchangeref2_numbered : SC :=
  (.seq (.reg [.r 6 (.mv (.c (.d (.int .i64 0)))),
     .r 7 (.mv (.c (.d (.bool false))))])
  (.seq (.seq (.reg (.r 11 (.mv (.t 0)) :: .r 12 (.bin .eql (.t 11) (.c (.d (.str [])))) :: .r 13 (.mv (.t 12)) :: gapp [14, 15, 16, 17] 13 false (.r 14 (.mv (.t 0)) :: .r 15 (.lenT (.t 14)) :: .r 16 (.mv (.t 1)) :: .r 17 (.bin .gtr (.t 15) (.t 16)) :: []) (.r 18 (.pick (.t 13) (.c (.d (.bool true))) (.t 17)) :: .r 19 (.mv (.t 18)) :: gapp [20, 21, 22, 23, 24, 25, 26, 27] 19 false (.r 20 (.mv (.t 0)) :: .r 21 (.lenT (.t 20)) :: .r 22 (.bin .gtr (.t 21) (.c (.d (.int .i64 1)))) :: .r 23 (.mv (.t 22)) :: gapp [24, 25, 26] 23 true (.r 24 (.mv (.t 0)) :: .r 25 (.sidx (.t 24) (.c (.d (.int .i64 0)))) :: .r 26 (.bin .eql (.t 25) (.c (.d (.int .u8 48)))) :: []) (.r 27 (.pick (.t 23) (.t 26) (.c (.d (.bool false)))) :: [])) (.r 28 (.pick (.t 19) (.c (.d (.bool true))) (.t 27)) :: []))))
  (.cond (.t 28)
    (.seq (.reg [.r 6 (.mv (.c (.d (.int .i64 0)))),
       .r 7 (.mv (.c (.d (.bool false))))])
    .ret)
    .skip))
  (.seq (.seq (.reg [.r 8 (.mv (.c (.d (.int .i64 0))))])
  sc_interchangeref2_numbered_B1)
  (.seq (.reg [.r 46 (.mv (.t 0)),
     .c 47 (.f 78) [.t 46],
     .r 45 (.mv (.t 47)),
     .r 48 (.ext (.t 45) 0),
     .r 49 (.ext (.t 45) 1),
     .r 9 (.mv (.t 48)),
     .r 10 (.mv (.t 49))])
  (.seq (.reg [.r 50 (.mv (.t 9)),
     .r 51 (.mv (.t 9)),
     .r 52 (.mv (.t 2)),
     .r 53 (.bin .leq (.t 51) (.t 52)),
     .r 6 (.mv (.t 50)),
     .r 7 (.mv (.t 53))])
  .ret)))))
theorem fit_interchangeref2_numbered : fits Tryz.prog 64 Tryz.f64 sc_interchangeref2_numbered [.t 6, .t 7] 3 = true := by kernel_rfl

def sc_interchangeref2_IsReference_L1 : SC :=
  (.seq (.seq (.reg [.r 4 (.mv (.t 3)),
     .r 5 (.mv (.t 0)),
     .r 6 (.lenT (.t 5)),
     .r 7 (.bin .lss (.t 4) (.t 6))])
  (.cond (.t 7)
    .skip
    (.exit 0)))
  (.seq (.block 1 (.seq (.reg (.r 10 (.mv (.t 0)) :: .r 11 (.mv (.t 3)) :: .r 12 (.sidx (.t 10) (.t 11)) :: .r 13 (.bin .geq (.t 12) (.c (.d (.int .u8 65)))) :: .r 14 (.mv (.t 13)) :: gapp [15, 16, 17, 18] 14 true (.r 15 (.mv (.t 0)) :: .r 16 (.mv (.t 3)) :: .r 17 (.sidx (.t 15) (.t 16)) :: .r 18 (.bin .leq (.t 17) (.c (.d (.int .u8 90)))) :: []) (.r 19 (.pick (.t 14) (.t 18) (.c (.d (.bool false)))) :: .r 20 (.mv (.t 19)) :: gapp [21, 22, 23, 24, 25, 26, 27, 28, 29, 30] 20 false (.r 21 (.mv (.t 0)) :: .r 22 (.mv (.t 3)) :: .r 23 (.sidx (.t 21) (.t 22)) :: .r 24 (.bin .geq (.t 23) (.c (.d (.int .u8 48)))) :: .r 25 (.mv (.t 24)) :: gapp [26, 27, 28, 29] 25 true (.r 26 (.mv (.t 0)) :: .r 27 (.mv (.t 3)) :: .r 28 (.sidx (.t 26) (.t 27)) :: .r 29 (.bin .leq (.t 28) (.c (.d (.int .u8 57)))) :: []) (.r 30 (.pick (.t 25) (.t 29) (.c (.d (.bool false)))) :: [])) (.r 31 (.pick (.t 20) (.c (.d (.bool true))) (.t 30)) :: .r 32 (.mv (.t 31)) :: gapp [33, 34, 35, 36] 32 false (.r 33 (.mv (.t 0)) :: .r 34 (.mv (.t 3)) :: .r 35 (.sidx (.t 33) (.t 34)) :: .r 36 (.bin .eql (.t 35) (.c (.d (.int .u8 45)))) :: []) (.r 37 (.pick (.t 32) (.c (.d (.bool true))) (.t 36)) :: .r 38 (.not (.t 37)) :: [])))))
    (.cond (.t 38)
      (.seq (.reg [.r 2 (.mv (.c (.d (.bool false))))])
      .ret)
      .skip)))
  (.reg [.r 8 (.mv (.t 3)),
     .r 9 (.bin .add (.t 8) (.c (.d (.int .i64 1)))),
     .r 3 (.mv (.t 9))])))
def sc_interchangeref2_IsReference_B1 : SC := .block 0 (.loop sc_interchangeref2_IsReference_L1)
/-- interchange/interchangeref2.IsReference -/
def sc_interchangeref2_IsReference : SC :=
  (.seq (.reg [.r 2 (.mv (.c (.d (.bool false))))])
  (.seq (.seq (.reg [.r 3 (.mv (.c (.d (.int .i64 0))))])
  sc_interchangeref2_IsReference_B1)
  (.seq (.reg (.r 39 (.mv (.t 0)) :: .r 40 (.bin .neq (.t 39) (.c (.d (.str [])))) :: .r 41 (.mv (.t 40)) :: gapp [42, 43, 44] 41 true (.r 42 (.mv (.t 0)) :: .r 43 (.lenT (.t 42)) :: .r 44 (.bin .leq (.t 43) (.c (.d (.int .i64 14)))) :: []) (.r 45 (.pick (.t 41) (.t 44) (.c (.d (.bool false)))) :: .r 2 (.mv (.t 45)) :: [])))
  .ret)))
theorem fit_interchangeref2_IsReference : fits Tryz.prog 65 Tryz.f65 sc_interchangeref2_IsReference [.t 2] 1 = true := by kernel_rfl

def sc_interchangeref2_IsName_L1 : SC :=
  (.seq (.seq (.reg [.r 6 (.mv (.t 3)),
     .r 7 (.mv (.t 0)),
     .r 8 (.lenT (.t 7)),
     .r 9 (.bin .lss (.t 6) (.t 8))])
  (.cond (.t 9)
    .skip
    (.exit 0)))
  (.seq (.block 1 (.seq (.reg [.r 12 (.mv (.t 0)),
       .r 13 (.mv (.t 3)),
       .r 14 (.sidx (.t 12) (.t 13)),
       .r 4 (.mv (.t 14))])
    (.seq (.reg (.r 15 (.mv (.t 4)) :: .r 16 (.bin .geq (.t 15) (.c (.d (.int .u8 97)))) :: .r 17 (.mv (.t 16)) :: gapp [18, 19] 17 true (.r 18 (.mv (.t 4)) :: .r 19 (.bin .leq (.t 18) (.c (.d (.int .u8 122)))) :: []) (.r 20 (.pick (.t 17) (.t 19) (.c (.d (.bool false)))) :: .r 5 (.mv (.t 20)) :: [])))
    (.seq (.reg (.r 21 (.mv (.t 5)) :: .r 22 (.not (.t 21)) :: .r 23 (.mv (.t 22)) :: gapp [24, 25, 26, 27, 28, 29, 30, 31, 32, 33, 34, 35, 36, 37, 38] 23 true (.r 24 (.mv (.t 3)) :: .r 25 (.bin .eql (.t 24) (.c (.d (.int .i64 0)))) :: .r 26 (.mv (.t 25)) :: gapp [27, 28, 29, 30, 31, 32, 33, 34, 35, 36, 37] 26 false (.r 27 (.mv (.t 4)) :: .r 28 (.bin .neq (.t 27) (.c (.d (.int .u8 45)))) :: .r 29 (.mv (.t 28)) :: gapp [30, 31, 32, 33, 34, 35, 36] 29 true (.r 30 (.mv (.t 4)) :: .r 31 (.bin .geq (.t 30) (.c (.d (.int .u8 48)))) :: .r 32 (.mv (.t 31)) :: gapp [33, 34] 32 true (.r 33 (.mv (.t 4)) :: .r 34 (.bin .leq (.t 33) (.c (.d (.int .u8 57)))) :: []) (.r 35 (.pick (.t 32) (.t 34) (.c (.d (.bool false)))) :: .r 36 (.not (.t 35)) :: [])) (.r 37 (.pick (.t 29) (.t 36) (.c (.d (.bool false)))) :: [])) (.r 38 (.pick (.t 26) (.c (.d (.bool true))) (.t 37)) :: [])) (.r 39 (.pick (.t 23) (.t 38) (.c (.d (.bool false)))) :: [])))
    (.cond (.t 39)
      (.seq (.reg [.r 2 (.mv (.c (.d (.bool false))))])
      .ret)
      .skip)))))
  (.reg [.r 10 (.mv (.t 3)),
     .r 11 (.bin .add (.t 10) (.c (.d (.int .i64 1)))),
     .r 3 (.mv (.t 11))])))
def sc_interchangeref2_IsName_B1 : SC := .block 0 (.loop sc_interchangeref2_IsName_L1)
/-- interchange/interchangeref2.IsName -/
def sc_interchangeref2_IsName : SC :=
  (.seq (.reg [.r 2 (.mv (.c (.d (.bool false))))])
  (.seq (.seq (.reg [.r 3 (.mv (.c (.d (.int .i64 0))))])
  sc_interchangeref2_IsName_B1)
  (.seq (.reg (.r 40 (.mv (.t 0)) :: .r 41 (.bin .neq (.t 40) (.c (.d (.str [])))) :: .r 42 (.mv (.t 41)) :: gapp [43, 44, 45] 42 true (.r 43 (.mv (.t 0)) :: .r 44 (.lenT (.t 43)) :: .r 45 (.bin .leq (.t 44) (.c (.d (.int .i64 40)))) :: []) (.r 46 (.pick (.t 42) (.t 45) (.c (.d (.bool false)))) :: .r 2 (.mv (.t 46)) :: [])))
  .ret)))
theorem fit_interchangeref2_IsName : fits Tryz.prog 83 Tryz.f83 sc_interchangeref2_IsName [.t 2] 1 = true := by kernel_rfl

/-- interchange/interchangeref2.levelOf -/
def sc_interchangeref2_levelOf : SC :=
  (.seq (.reg [.r 2 (.mv (.c (.d (.int .i64 0))))])
  (.seq (.seq (.reg [.r 3 (.mv (.t 0))])
  (.block 0 (.seq (.seq (.reg [.r 5 (.bin .eql (.t 3) (.c (.d (.str [73, 72, 68])))),
       .r 4 (.mv (.t 5))])
    (.cond (.t 4)
      .skip
      (.reg [.r 6 (.bin .eql (.t 3) (.c (.d (.str [73, 84, 82])))),
         .r 4 (.mv (.t 6))])))
    (.cond (.t 4)
      (.seq (.reg [.r 2 (.mv (.c (.d (.int .i64 1))))])
      .ret)
      (.seq (.seq (.reg [.r 8 (.bin .eql (.t 3) (.c (.d (.str [71, 72, 68])))),
         .r 7 (.mv (.t 8))])
      (.cond (.t 7)
        .skip
        (.reg [.r 9 (.bin .eql (.t 3) (.c (.d (.str [71, 84, 82])))),
           .r 7 (.mv (.t 9))])))
      (.cond (.t 7)
        (.seq (.reg [.r 2 (.mv (.c (.d (.int .i64 2))))])
        .ret)
        (.seq (.seq (.reg [.r 11 (.bin .eql (.t 3) (.c (.d (.str [77, 72, 68])))),
           .r 10 (.mv (.t 11))])
        (.cond (.t 10)
          .skip
          (.reg [.r 12 (.bin .eql (.t 3) (.c (.d (.str [77, 84, 82])))),
             .r 10 (.mv (.t 12))])))
        (.cond (.t 10)
          (.seq (.reg [.r 2 (.mv (.c (.d (.int .i64 3))))])
          .ret)
          .skip))))))))
  (.seq (.reg [.r 2 (.mv (.c (.d (.int .i64 0))))])
  .ret)))
theorem fit_interchangeref2_levelOf : fits Tryz.prog 60 Tryz.f60 sc_interchangeref2_levelOf [.t 2] 1 = true := by kernel_rfl

/-- interchange/interchangeref2.isHead -/
def sc_interchangeref2_isHead : SC :=
  (.seq (.reg [.r 2 (.mv (.c (.d (.bool false))))])
  (.seq (.reg (.r 3 (.mv (.t 0)) :: .r 4 (.bin .eql (.t 3) (.c (.d (.str [73, 72, 68])))) :: .r 5 (.mv (.t 4)) :: gapp [6, 7] 5 false (.r 6 (.mv (.t 0)) :: .r 7 (.bin .eql (.t 6) (.c (.d (.str [71, 72, 68])))) :: []) (.r 8 (.pick (.t 5) (.c (.d (.bool true))) (.t 7)) :: .r 9 (.mv (.t 8)) :: gapp [10, 11] 9 false (.r 10 (.mv (.t 0)) :: .r 11 (.bin .eql (.t 10) (.c (.d (.str [77, 72, 68])))) :: []) (.r 12 (.pick (.t 9) (.c (.d (.bool true))) (.t 11)) :: .r 2 (.mv (.t 12)) :: []))))
  .ret))
theorem fit_interchangeref2_isHead : fits Tryz.prog 32 Tryz.f32 sc_interchangeref2_isHead [.t 2] 1 = true := by kernel_rfl

set_option maxRecDepth 100000 in
set_option maxHeartbeats 40000000 in
noncomputable def sims_GA2_0_0 : (∀ (x0 : Tapi_Segment), {m : Option ((List (List UInt8)) × Bool) // ∀ r, m = some r → PureSpec Tryz.prog 63 [.agg (rTapi_Segment x0)] (.tup [.slice (List.map rowS r.1), .bool r.2])}) × (∀ (x0 : List UInt8) (x1 : Int) (x2 : Int), {m : Option (Int × Bool) // ∀ r, m = some r → PureSpec Tryz.prog 64 [.str x0, .int .i64 x1, .int .i64 x2] (.tup [.int .i64 r.1, .bool r.2])}) × (∀ (x0 : List UInt8), {m : Option (Bool) // ∀ r, m = some r → PureSpec Tryz.prog 65 [.str x0] (.bool r)}) × (∀ (x0 : List UInt8), {m : Option (Bool) // ∀ r, m = some r → PureSpec Tryz.prog 83 [.str x0] (.bool r)}) × (∀ (x0 : List UInt8), {m : Option (Int) // ∀ r, m = some r → PureSpec Tryz.prog 60 [.str x0] (.int .i64 r)}) × (∀ (x0 : List UInt8), {m : Option (Bool) // ∀ r, m = some r → PureSpec Tryz.prog 32 [.str x0] (.bool r)}) := by
  refine ⟨?g0, ?g1, ?g2, ?g3, ?g4, ?g5⟩
  case' g0 => (intro x0; apply Subtype.mk; intro r hm; apply pure_walk Tryz.func63 fit_interchangeref2_texts; unfold sc_interchangeref2_texts)
  case' g1 => (intro x0 x1 x2; apply Subtype.mk; intro r hm; apply pure_walk Tryz.func64 fit_interchangeref2_numbered; unfold sc_interchangeref2_numbered)
  case' g2 => (intro x0; apply Subtype.mk; intro r hm; apply pure_walk Tryz.func65 fit_interchangeref2_IsReference; unfold sc_interchangeref2_IsReference)
  case' g3 => (intro x0; apply Subtype.mk; intro r hm; apply pure_walk Tryz.func83 fit_interchangeref2_IsName; unfold sc_interchangeref2_IsName)
  case' g4 => (intro x0; apply Subtype.mk; intro r hm; apply pure_walk Tryz.func60 fit_interchangeref2_levelOf; unfold sc_interchangeref2_levelOf)
  case' g5 => (intro x0; apply Subtype.mk; intro r hm; apply pure_walk Tryz.func32 fit_interchangeref2_isHead; unfold sc_interchangeref2_isHead)
  all_goals (repeat' (first | with_reducible refine W_seq ?_ | with_reducible refine W_reg ?_ | with_reducible refine W_block ?_ | with_reducible refine W_skip ?_ | with_reducible refine W_ret ?_ | with_reducible refine W_exit ?_ | with_reducible refine O_nil ?_ | with_reducible refine K_seq ?_ | with_reducible refine K_seqE ?_ | with_reducible refine K_seqR ?_ | with_reducible refine K_block ?_ | with_reducible refine K_blockR ?_ | with_reducible refine O_o2r ?_ | ((with_reducible apply O_idxr hm); (iterate 2 (simp only [push_cast, seval]; rfl)); (intro _; rfl); intro e hm) | ((with_reducible apply O_sidxr hm); (iterate 2 (simp only [push_cast, seval]; rfl)); intro e hm) | ((with_reducible apply O_r); (simp only [push_cast, seval]; rfl); (first | exact trivial)) | ((with_reducible apply O_and hm); (simp only [push_cast, seval]; rfl); rfl; intro v hm; rotate_left; intro v g hm) | ((with_reducible apply O_or hm); (simp only [push_cast, seval]; rfl); rfl; intro v hm; rotate_left; intro v g hm) | ((with_reducible apply O_cF hm); (simp only [push_cast, seval]; rfl); (first | apply spec_strconv_Atoi _); (any_goals ((repeat' (first | rfl)); done)); intro x hm) | ((with_reducible apply O_appV hm); (iterate 4 (simp only [push_cast, seval]; rfl)); (focus ((repeat' (first | rfl | (with_reducible first | apply dv_slice | apply fold_nil | apply fold_cons))); done)); decide; (intro _; rfl); intro hm) | ((with_reducible apply S_condB hm); (simp only [push_cast, seval]; rfl); intro hm; rotate_left; intro hm) | ((with_reducible apply K_end2 hm); (focus (simp only [resOf, resL, RV.get, push_cast, seval]; rfl)); (focus (first | (dsimp only; done))); (focus ((repeat' (first | rfl)); done))) | ((with_reducible apply K_endS hm); (focus (simp only [resOf, resL, RV.get, push_cast, seval]; rfl)); (focus ((repeat' (first | rfl)); done))) | ((with_reducible apply K_bool hm); (simp only [push_cast, seval]; rfl)) | ((with_reducible apply K_leave hm); intro r hm) | ((with_reducible apply K_leaveR hm); intro r hm) | ((apply S_loopY (b := 0) (X := sc_interchangeref2_texts_B1) (x := sc_interchangeref2_texts_L1) rfl (fun (c : SV) (s : (List (List UInt8)) × Bool × Int) => st [(1, c), (4, .vec 4), (5, .d (.bool s.2.1)), (6, .d (.int .i64 s.2.2))] [(4, .vec 9 1 (vrow rowS s.1))]) (c := _) (s0 := (_, _, _)) hm); (focus (first | (dsimp only; done))); (with_reducible refine Then.mk ?_ ?_); apply Imp.trans; (focus (apply imp_vecnil (slot := 4) (id := 4) (e := 9) (sz := 1); (focus (simp only [push_cast, seval]; done))))) | ((apply S_loopY (b := 0) (X := sc_interchangeref2_numbered_B1) (x := sc_interchangeref2_numbered_L1) rfl (fun (c : SV × SV) (s : Int) => st [(0, c.1), (2, c.2), (8, .d (.int .i64 s))] []) (c := (_, _)) (s0 := _) hm); (focus (first | (dsimp only; done))); (with_reducible refine Then.mk ?_ ?_)) | ((apply S_loopY (b := 0) (X := sc_interchangeref2_IsReference_B1) (x := sc_interchangeref2_IsReference_L1) rfl (fun (c : SV) (s : Int) => st [(0, c), (3, .d (.int .i64 s))] []) (c := _) (s0 := _) hm); (focus (first | (dsimp only; done))); (with_reducible refine Then.mk ?_ ?_)) | ((apply S_loopY (b := 0) (X := sc_interchangeref2_IsName_B1) (x := sc_interchangeref2_IsName_L1) rfl (fun (c : SV) (s : Int) => st [(0, c), (3, .d (.int .i64 s))] []) (c := _) (s0 := _) hm); (focus (first | (dsimp only; done))); (with_reducible refine Then.mk ?_ ?_)) | ((apply K_next (s' := (_, _, _)) hm); (focus (first | (dsimp only; done)))) | ((apply K_brk (s' := (_, _, _)) hm); (focus (first | (dsimp only; done)))) | ((apply K_next (s' := _) hm); (focus (first | (dsimp only; done)))) | ((apply K_brk (s' := _) hm); (focus (first | (dsimp only; done)))) | (((with_reducible apply K_brkR hm); intro r hm)) | (((with_reducible apply LoopB.of); (focus (first | (dsimp only; done))); (focus ((intro _; repeat' (first | with_reducible exact impC_end | with_reducible refine impC_seq ?_)))); (intro s o hm; first | unfold sc_interchangeref2_texts_L1 | unfold sc_interchangeref2_numbered_L1 | unfold sc_interchangeref2_IsReference_L1 | unfold sc_interchangeref2_IsName_L1); rotate_left; intro s hm)) | (((apply imp_stT; (repeat' (first | with_reducible exact keepT_nil | with_reducible exact keepC_nil | with_reducible apply keepT_cons | with_reducible apply keepC_cons | ((with_reducible apply svle_eq); (focus (first | (simp only [push_cast, seval]; rfl))); (focus ((repeat' (first | rfl)); done))) | ((with_reducible apply chle_eq); (focus (first | (simp only [push_cast, seval]; rfl))); (first | with_reducible exact chle_rfl rfl | with_reducible apply chle_vec)) | (with_reducible first | apply r_nil))); done)))))
noncomputable def m_interchangeref2_texts (x0 : Tapi_Segment) : Option ((List (List UInt8)) × Bool) := (sims_GA2_0_0.1 x0).1
theorem spec_interchangeref2_texts (x0 : Tapi_Segment) : ∀ r, m_interchangeref2_texts x0 = some r → PureSpec Tryz.prog 63 [.agg (rTapi_Segment x0)] (.tup [.slice (List.map rowS r.1), .bool r.2]) := (sims_GA2_0_0.1 x0).2
noncomputable def m_interchangeref2_numbered (x0 : List UInt8) (x1 : Int) (x2 : Int) : Option (Int × Bool) := (sims_GA2_0_0.2.1 x0 x1 x2).1
theorem spec_interchangeref2_numbered (x0 : List UInt8) (x1 : Int) (x2 : Int) : ∀ r, m_interchangeref2_numbered x0 x1 x2 = some r → PureSpec Tryz.prog 64 [.str x0, .int .i64 x1, .int .i64 x2] (.tup [.int .i64 r.1, .bool r.2]) := (sims_GA2_0_0.2.1 x0 x1 x2).2
noncomputable def m_interchangeref2_IsReference (x0 : List UInt8) : Option (Bool) := (sims_GA2_0_0.2.2.1 x0).1
theorem spec_interchangeref2_IsReference (x0 : List UInt8) : ∀ r, m_interchangeref2_IsReference x0 = some r → PureSpec Tryz.prog 65 [.str x0] (.bool r) := (sims_GA2_0_0.2.2.1 x0).2
noncomputable def m_interchangeref2_IsName (x0 : List UInt8) : Option (Bool) := (sims_GA2_0_0.2.2.2.1 x0).1
theorem spec_interchangeref2_IsName (x0 : List UInt8) : ∀ r, m_interchangeref2_IsName x0 = some r → PureSpec Tryz.prog 83 [.str x0] (.bool r) := (sims_GA2_0_0.2.2.2.1 x0).2
noncomputable def m_interchangeref2_levelOf (x0 : List UInt8) : Option (Int) := (sims_GA2_0_0.2.2.2.2.1 x0).1
theorem spec_interchangeref2_levelOf (x0 : List UInt8) : ∀ r, m_interchangeref2_levelOf x0 = some r → PureSpec Tryz.prog 60 [.str x0] (.int .i64 r) := (sims_GA2_0_0.2.2.2.2.1 x0).2
noncomputable def m_interchangeref2_isHead (x0 : List UInt8) : Option (Bool) := (sims_GA2_0_0.2.2.2.2.2 x0).1
theorem spec_interchangeref2_isHead (x0 : List UInt8) : ∀ r, m_interchangeref2_isHead x0 = some r → PureSpec Tryz.prog 32 [.str x0] (.bool r) := (sims_GA2_0_0.2.2.2.2.2 x0).2

/-- interchange/interchangeref2.headForm -/
def sc_interchangeref2_headForm : SC :=
  (.seq (.reg [.r 1 (.boxI (.t 0)),
     .r 2 (.mv (.c (.d (.bool false))))])
  (.seq (.reg [.o 10 (.ldA 2 (.t 1)),
     .c 11 (.f 63) [.t 10],
     .r 9 (.mv (.t 11)),
     .r 12 (.ext (.t 9) 0),
     .r 13 (.ext (.t 9) 1),
     .r 3 (.mv (.t 12)),
     .r 4 (.mv (.t 13))])
  (.seq (.seq (.reg [.r 14 (.fld 0 (.t 1)),
     .o 15 (.ld1 (.t 14))])
  (.block 0 (.seq (.reg [.r 17 (.bin .eql (.t 15) (.c (.d (.str [73, 72, 68])))),
       .r 16 (.mv (.t 17))])
    (.cond (.t 16)
      (.seq (.seq (.reg (.r 18 (.mv (.t 4)) :: .r 19 (.not (.t 18)) :: .r 20 (.mv (.t 19)) :: gapp [21, 22, 23] 20 false (.r 21 (.mv (.t 3)) :: .r 22 (.len (.t 21)) :: .r 23 (.bin .neq (.t 22) (.c (.d (.int .i64 6)))) :: []) (.r 24 (.pick (.t 20) (.c (.d (.bool true))) (.t 23)) :: [])))
      (.cond (.t 24)
        (.seq (.reg [.r 2 (.mv (.c (.d (.bool false))))])
        .ret)
        .skip))
      (.seq (.reg [.r 26 (.mv (.t 3)),
         .r 27 (.idx 1 (.t 26) (.c (.d (.int .i64 3)))),
         .o 28 (.ld1 (.t 27)),
         .c 29 (.f 64) [.t 28, .c (.d (.int .i64 9)), .c (.d (.int .i64 3652059))],
         .r 25 (.mv (.t 29)),
         .r 30 (.ext (.t 25) 0),
         .r 31 (.ext (.t 25) 1),
         .r 5 (.mv (.t 30)),
         .r 6 (.mv (.t 31))])
      (.seq (.reg [.r 33 (.mv (.t 3)),
         .r 34 (.idx 1 (.t 33) (.c (.d (.int .i64 4)))),
         .o 35 (.ld1 (.t 34)),
         .c 36 (.f 64) [.t 35, .c (.d (.int .i64 9)), .c (.d (.int .i64 86399))],
         .r 32 (.mv (.t 36)),
         .r 37 (.ext (.t 32) 0),
         .r 38 (.ext (.t 32) 1),
         .r 7 (.mv (.t 37)),
         .r 8 (.mv (.t 38))])
      (.seq (.reg (.r 39 (.mv (.t 3)) :: .r 40 (.idx 1 (.t 39) (.c (.d (.int .i64 0)))) :: .o 41 (.ld1 (.t 40)) :: .c 42 (.f 65) [.t 41] :: .r 43 (.mv (.t 42)) :: gapp [44, 45, 46, 47] 43 true (.r 44 (.mv (.t 3)) :: .r 45 (.idx 1 (.t 44) (.c (.d (.int .i64 1)))) :: .r 46 (.ld1 (.t 45)) :: .c 47 (.f 83) [.t 46] :: []) (.r 48 (.pick (.t 43) (.t 47) (.c (.d (.bool false)))) :: .r 49 (.mv (.t 48)) :: gapp [50, 51, 52, 53] 49 true (.r 50 (.mv (.t 3)) :: .r 51 (.idx 1 (.t 50) (.c (.d (.int .i64 2)))) :: .r 52 (.ld1 (.t 51)) :: .c 53 (.f 83) [.t 52] :: []) (.r 54 (.pick (.t 49) (.t 53) (.c (.d (.bool false)))) :: .r 55 (.mv (.t 54)) :: gapp [56] 55 true (.r 56 (.mv (.t 6)) :: []) (.r 57 (.pick (.t 55) (.t 56) (.c (.d (.bool false)))) :: .r 58 (.mv (.t 57)) :: gapp [59, 60] 58 true (.r 59 (.mv (.t 5)) :: .r 60 (.bin .geq (.t 59) (.c (.d (.int .i64 1)))) :: []) (.r 61 (.pick (.t 58) (.t 60) (.c (.d (.bool false)))) :: .r 62 (.mv (.t 61)) :: gapp [63] 62 true (.r 63 (.mv (.t 8)) :: []) (.r 64 (.pick (.t 62) (.t 63) (.c (.d (.bool false)))) :: .r 65 (.mv (.t 64)) :: gapp [66, 67, 68, 69, 70, 71, 72, 73, 74, 75] 65 true (.r 66 (.mv (.t 3)) :: .r 67 (.idx 1 (.t 66) (.c (.d (.int .i64 5)))) :: .r 68 (.ld1 (.t 67)) :: .r 69 (.bin .eql (.t 68) (.c (.d (.str [])))) :: .r 70 (.mv (.t 69)) :: gapp [71, 72, 73, 74] 70 false (.r 71 (.mv (.t 3)) :: .r 72 (.idx 1 (.t 71) (.c (.d (.int .i64 5)))) :: .r 73 (.ld1 (.t 72)) :: .r 74 (.bin .eql (.t 73) (.c (.d (.str [49])))) :: []) (.r 75 (.pick (.t 70) (.c (.d (.bool true))) (.t 74)) :: [])) (.r 76 (.pick (.t 65) (.t 75) (.c (.d (.bool false)))) :: .r 2 (.mv (.t 76)) :: []))))))))
      .ret))))
      (.seq (.reg [.r 78 (.bin .eql (.t 15) (.c (.d (.str [71, 72, 68])))),
         .r 77 (.mv (.t 78))])
      (.cond (.t 77)
        (.seq (.reg (.r 79 (.mv (.t 4)) :: .r 80 (.mv (.t 79)) :: gapp [81, 82, 83] 80 true (.r 81 (.mv (.t 3)) :: .r 82 (.len (.t 81)) :: .r 83 (.bin .eql (.t 82) (.c (.d (.int .i64 2)))) :: []) (.r 84 (.pick (.t 80) (.t 83) (.c (.d (.bool false)))) :: .r 85 (.mv (.t 84)) :: gapp [86, 87, 88, 89] 85 true (.r 86 (.mv (.t 3)) :: .r 87 (.idx 1 (.t 86) (.c (.d (.int .i64 0)))) :: .r 88 (.ld1 (.t 87)) :: .c 89 (.f 65) [.t 88] :: []) (.r 90 (.pick (.t 85) (.t 89) (.c (.d (.bool false)))) :: .r 91 (.mv (.t 90)) :: gapp [92, 93, 94, 95] 91 true (.r 92 (.mv (.t 3)) :: .r 93 (.idx 1 (.t 92) (.c (.d (.int .i64 1)))) :: .r 94 (.ld1 (.t 93)) :: .c 95 (.f 83) [.t 94] :: []) (.r 96 (.pick (.t 91) (.t 95) (.c (.d (.bool false)))) :: .r 2 (.mv (.t 96)) :: [])))))
        .ret)
        .skip))))))
  (.seq (.reg (.r 97 (.mv (.t 4)) :: .r 98 (.mv (.t 97)) :: gapp [99, 100, 101] 98 true (.r 99 (.mv (.t 3)) :: .r 100 (.len (.t 99)) :: .r 101 (.bin .eql (.t 100) (.c (.d (.int .i64 3)))) :: []) (.r 102 (.pick (.t 98) (.t 101) (.c (.d (.bool false)))) :: .r 103 (.mv (.t 102)) :: gapp [104, 105, 106, 107] 103 true (.r 104 (.mv (.t 3)) :: .r 105 (.idx 1 (.t 104) (.c (.d (.int .i64 0)))) :: .r 106 (.ld1 (.t 105)) :: .c 107 (.f 65) [.t 106] :: []) (.r 108 (.pick (.t 103) (.t 107) (.c (.d (.bool false)))) :: .r 109 (.mv (.t 108)) :: gapp [110, 111, 112, 113] 109 true (.r 110 (.mv (.t 3)) :: .r 111 (.idx 1 (.t 110) (.c (.d (.int .i64 1)))) :: .r 112 (.ld1 (.t 111)) :: .c 113 (.f 83) [.t 112] :: []) (.r 114 (.pick (.t 109) (.t 113) (.c (.d (.bool false)))) :: .r 115 (.mv (.t 114)) :: gapp [116, 117, 118, 119] 115 true (.r 116 (.mv (.t 3)) :: .r 117 (.idx 1 (.t 116) (.c (.d (.int .i64 2)))) :: .r 118 (.ld1 (.t 117)) :: .c 119 (.f 83) [.t 118] :: []) (.r 120 (.pick (.t 115) (.t 119) (.c (.d (.bool false)))) :: .r 2 (.mv (.t 120)) :: []))))))
  .ret))))
theorem fit_interchangeref2_headForm : fits Tryz.prog 61 Tryz.f61 sc_interchangeref2_headForm [.t 2] 1 = true := by kernel_rfl

/-- interchange/interchangeref2.isEnvelope -/
def sc_interchangeref2_isEnvelope : SC :=
  (.seq (.reg [.r 2 (.mv (.c (.d (.bool false))))])
  (.seq (.reg [.r 3 (.mv (.t 0)),
     .c 4 (.f 60) [.t 3],
     .r 5 (.bin .gtr (.t 4) (.c (.d (.int .i64 0)))),
     .r 2 (.mv (.t 5))])
  .ret))
theorem fit_interchangeref2_isEnvelope : fits Tryz.prog 34 Tryz.f34 sc_interchangeref2_isEnvelope [.t 2] 1 = true := by kernel_rfl

set_option maxRecDepth 100000 in
set_option maxHeartbeats 40000000 in
noncomputable def sims_GA2_1_0 : (∀ (x0 : Tapi_Segment), {m : Option (Bool) // ∀ r, m = some r → PureSpec Tryz.prog 61 [.agg (rTapi_Segment x0)] (.bool r)}) × (∀ (x0 : List UInt8), {m : Option (Bool) // ∀ r, m = some r → PureSpec Tryz.prog 34 [.str x0] (.bool r)}) := by
  refine ⟨?g0, ?g1⟩
  case' g0 => (intro x0; apply Subtype.mk; intro r hm; apply pure_walk Tryz.func61 fit_interchangeref2_headForm; unfold sc_interchangeref2_headForm)
  case' g1 => (intro x0; apply Subtype.mk; intro r hm; apply pure_walk Tryz.func34 fit_interchangeref2_isEnvelope; unfold sc_interchangeref2_isEnvelope)
  all_goals (repeat' (first | with_reducible refine W_seq ?_ | with_reducible refine W_reg ?_ | with_reducible refine W_block ?_ | with_reducible refine W_skip ?_ | with_reducible refine W_ret ?_ | with_reducible refine O_nil ?_ | with_reducible refine K_seq ?_ | with_reducible refine K_seqR ?_ | with_reducible refine K_block ?_ | with_reducible refine K_blockR ?_ | with_reducible refine O_o2r ?_ | ((with_reducible apply O_idxr hm); (iterate 2 (simp only [push_cast, seval]; rfl)); (intro _; rfl); intro e hm) | ((with_reducible apply O_r); (simp only [push_cast, seval]; rfl); (first | exact trivial)) | ((with_reducible apply O_and hm); (simp only [push_cast, seval]; rfl); rfl; intro v hm; rotate_left; intro v g hm) | ((with_reducible apply O_or hm); (simp only [push_cast, seval]; rfl); rfl; intro v hm; rotate_left; intro v g hm) | ((with_reducible apply O_cF hm); (simp only [push_cast, seval]; rfl); (first | apply spec_interchangeref2_texts _ | apply spec_interchangeref2_numbered _ _ _ | apply spec_interchangeref2_IsReference _ | apply spec_interchangeref2_IsName _ | apply spec_interchangeref2_levelOf _); (any_goals ((repeat' (first | rfl)); done)); intro x hm) | ((with_reducible apply S_condB hm); (simp only [push_cast, seval]; rfl); intro hm; rotate_left; intro hm) | ((with_reducible apply K_endS hm); (focus (simp only [resOf, resL, RV.get, push_cast, seval]; rfl)); (focus ((repeat' (first | rfl)); done))) | ((with_reducible apply K_bool hm); (simp only [push_cast, seval]; rfl))))
noncomputable def m_interchangeref2_headForm (x0 : Tapi_Segment) : Option (Bool) := (sims_GA2_1_0.1 x0).1
theorem spec_interchangeref2_headForm (x0 : Tapi_Segment) : ∀ r, m_interchangeref2_headForm x0 = some r → PureSpec Tryz.prog 61 [.agg (rTapi_Segment x0)] (.bool r) := (sims_GA2_1_0.1 x0).2
noncomputable def m_interchangeref2_isEnvelope (x0 : List UInt8) : Option (Bool) := (sims_GA2_1_0.2 x0).1
theorem spec_interchangeref2_isEnvelope (x0 : List UInt8) : ∀ r, m_interchangeref2_isEnvelope x0 = some r → PureSpec Tryz.prog 34 [.str x0] (.bool r) := (sims_GA2_1_0.2 x0).2

end Go.Proofs.YtcnohbiegjahkaaGreatDoor
