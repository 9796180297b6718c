/-
  Texts of mine, one behind the other (SDShelf, SDLibT, SDShelfI, SDLibI, SDShelfR, SDLibR, SDShelfV, SDLibV, SDShelfW, SDLibW, SDLibF, SDF1).
-/
import Derived.Ground.NamesProg
import Derived.Shelf.Strings.SlTrimAscii
import Derived.Shelf.Small.Strs
import Derived.Test.YthpignffnnpboaaGreatDoorProg
import Derived.Test.YthpignffnnpboaaGreatDoorSDEngY
import Derived.KernelRfl
import Derived.Shelf.Strconv.Itoa3
import Derived.Shelf.Strings.Repeat
import Derived.Shelf.Strings.SplitShaped
import Derived.Shelf.Strings.Shaped
import Derived.Shelf.Small.Wraps
import Derived.Shelf.Strconv.Atoi
import Derived.Test.YthpignffnnpboaaGreatDoorSDEngZz
import Derived.Test.YthpignffnnpboaaGreatDoorSDEngRk
/-
  DERIVED: THE SHELF's CONTRACTS AT THIS DUMP, IN PLAIN WORDS (tools/lay-plain.mjs out of 'YthpignffnnpboaaGreatDoorShelf.lean', which tools/lay-shelf.mjs wrote): THE SAME DECLARATIONS UNDER THE SAME NAMES: 'import', 'namespace', 'open', 'def', 'theorem' AND NOTHING ELSE: no command of the shelf's: FOR A HAND-IN. Each laying: the table of numbers ('.._ren') and one theorem, a field a fact of the dump's own or the kernel's comparison; each contract: ONE APPLICATION.
-/
namespace Go.Proofs
open Go.Shelf
def Tryz.lays160_ren : Go.Shelf.Ren := ⟨fun | 160 => 109 | 232 => 134 | 231 => 133 | 227 => 135 | 234 => 137 | 233 => 136 | 236 => 139 | 235 => 138 | 228 => 154 | 271 => 156 | 151 => 155 | 197 => 126 | 120 => 168 | 152 => 167 | 260 => 150 | 137 => 92 | 119 => 175 | 224 => 113 | 225 => 112 | 217 => 111 | 266 => 141 | n => n, fun | 9 => 9 | 4 => 4 | 3 => 3 | 5 => 5 | 117 => 155 | 116 => 154 | 0 => 0 | 124 => 158 | 21 => 21 | 105 => 144 | 46 => 129 | 119 => 183 | 139 => 186 | 138 => 185 | n => n, fun | 3 => 3 | 4 => 4 | n => n⟩
theorem Tryz.lays160 : Go.Proofs.Lays.n160 Tryz.prog Tryz.lays160_ren := {
  mixed := by kernel_rfl
  f119 := Tryz.func175.trans (congrArg some (by kernel_rfl))
  f120 := Tryz.func168.trans (congrArg some (by kernel_rfl))
  f137 := Tryz.func92.trans (congrArg some (by kernel_rfl))
  f151 := Tryz.func155.trans (congrArg some (by kernel_rfl))
  f152 := Tryz.func167.trans (congrArg some (by kernel_rfl))
  f160 := Tryz.func109.trans (congrArg some (by kernel_rfl))
  f197 := Tryz.func126.trans (congrArg some (by kernel_rfl))
  f217 := Tryz.func111.trans (congrArg some (by kernel_rfl))
  f224 := Tryz.func113.trans (congrArg some (by kernel_rfl))
  f225 := Tryz.func112.trans (congrArg some (by kernel_rfl))
  f227 := Tryz.func135.trans (congrArg some (by kernel_rfl))
  f228 := Tryz.func154.trans (congrArg some (by kernel_rfl))
  f231 := Tryz.func133.trans (congrArg some (by kernel_rfl))
  f232 := Tryz.func134.trans (congrArg some (by kernel_rfl))
  f233 := Tryz.func136.trans (congrArg some (by kernel_rfl))
  f234 := Tryz.func137.trans (congrArg some (by kernel_rfl))
  f235 := Tryz.func138.trans (congrArg some (by kernel_rfl))
  f236 := Tryz.func139.trans (congrArg some (by kernel_rfl))
  f260 := Tryz.func150.trans (congrArg some (by kernel_rfl))
  f266 := Tryz.func141.trans (congrArg some (by kernel_rfl))
  f271 := Tryz.func156.trans (congrArg some (by kernel_rfl))
  t0 := Tryz.underlying0
  a0 := Tryz.isAgg0
  z0 := Tryz.sizeOf0
  v0 := Tryz.zeroValue0
  t3 := Tryz.underlying3
  a3 := Tryz.isAgg3
  z3 := Tryz.sizeOf3
  v3 := Tryz.zeroValue3
  t4 := Tryz.underlying4
  a4 := Tryz.isAgg4
  z4 := Tryz.sizeOf4
  v4 := Tryz.zeroValue4
  t5 := Tryz.underlying5
  a5 := Tryz.isAgg5
  z5 := Tryz.sizeOf5
  v5 := Tryz.zeroValue5
  t9 := Tryz.underlying9
  a9 := Tryz.isAgg9
  z9 := Tryz.sizeOf9
  v9 := Tryz.zeroValue9
  t21 := Tryz.underlying21
  a21 := Tryz.isAgg21
  z21 := Tryz.sizeOf21
  v21 := Tryz.zeroValue21
  t46 := Tryz.underlying129
  a46 := Tryz.isAgg129
  z46 := Tryz.sizeOf129
  v46 := Tryz.zeroValue129
  t105 := Tryz.underlying144
  a105 := Tryz.isAgg144
  z105 := Tryz.sizeOf144
  v105 := Tryz.zeroValue144
  t116 := Tryz.underlying154
  a116 := Tryz.isAgg154
  z116 := Tryz.sizeOf154
  t117 := Tryz.underlying155
  a117 := Tryz.isAgg155
  z117 := Tryz.sizeOf155
  v117 := Tryz.zeroValue155
  t119 := Tryz.underlying183
  a119 := Tryz.isAgg183
  z119 := Tryz.sizeOf183
  t124 := Tryz.underlying158
  a124 := Tryz.isAgg158
  z124 := Tryz.sizeOf158
  v124 := Tryz.zeroValue158
  t138 := Tryz.underlying185
  a138 := Tryz.isAgg185
  z138 := Tryz.sizeOf185
  v138 := Tryz.zeroValue185
  t139 := Tryz.underlying186
  a139 := Tryz.isAgg186
  z139 := Tryz.sizeOf186
  v139 := Tryz.zeroValue186
  g3 := by kernel_rfl
  g4 := by kernel_rfl }
end Go.Proofs

/-
  strings.Trim at a set of ASCII bytes.
-/
namespace Go.Proofs.YthpignffnnpboaaGreatDoor
set_option linter.unusedSimpArgs false
set_option linter.unusedVariables false
open Go.RowKit Go.Shelf

def m_strings_Trim (s cs : List UInt8) : Option (List UInt8) := if s.length ≤ 9223372036854775807 ∧ cs.length < 4294967281 ∧ cs.all (fun b => decide (b.toNat < 128)) = true then some (Lib.trimS s cs) else none
theorem spec_strings_Trim (s cs : List UInt8) : ∀ r, m_strings_Trim s cs = some r → PureSpec Tryz.prog 109 [.str s, .str cs] (.str r) := by
  intro r hr
  unfold m_strings_Trim at hr
  split at hr
  · rename_i h
    obtain ⟨h1, h2, h3⟩ := h
    cases hr
    refine ⟨by kernel_rfl, fun w M vs hM hv _ => ?_⟩
    simp only [RepL, Rep] at hv
    obtain ⟨u, us, rfl, rfl, u', us', rfl, rfl, rfl⟩ := hv
    have hcon := Any.strings_Trim_laid Tryz.lays160 (by kernel_rfl) ⟨s.toArray⟩ ⟨cs.toArray⟩ w (by simpa [ByteArray.size] using h1) (by simpa [ByteArray.size] using h2) (ascii_of_all (by simpa using h3))
    refine Calls.mono hcon ?_
    rintro e w' ⟨rfl, hB⟩
    exact ⟨_, rfl, by simp [Rep], hB⟩
  · cases hr
end Go.Proofs.YthpignffnnpboaaGreatDoor

/-
  DERIVED: THE SHELF's CONTRACTS AT THIS DUMP, IN PLAIN WORDS (tools/lay-plain.mjs out of 'YthpignffnnpboaaGreatDoorShelfI.lean', which tools/lay-shelf.mjs wrote): THE SAME DECLARATIONS UNDER THE SAME NAMES: 'import', 'namespace', 'open', 'def', 'theorem' AND NOTHING ELSE: no command of the shelf's: FOR A HAND-IN. Each laying: the table of numbers ('.._ren') and one theorem, a field a fact of the dump's own or the kernel's comparison; each contract: ONE APPLICATION.
-/
namespace Go.Proofs
open Go.Shelf
def Tryz.lays171_ren : Go.Shelf.Ren := ⟨fun | 171 => 121 | 243 => 147 | 246 => 163 | 283 => 157 | 284 => 158 | 285 => 159 | 286 => 160 | 129 => 170 | 317 => 169 | 318 => 171 | 319 => 172 | 320 => 173 | 337 => 176 | 338 => 177 | n => n, fun | 3 => 3 | 9 => 9 | 2 => 2 | 4 => 4 | 171 => 174 | 0 => 0 | 53 => 126 | 37 => 112 | 5 => 5 | 173 => 177 | 212 => 193 | 51 => 159 | 20 => 20 | 213 => 194 | 46 => 129 | 232 => 198 | 233 => 199 | n => n, fun | 17 => 5 | 18 => 6 | 19 => 7 | n => n⟩
theorem Tryz.lays171 : Go.Proofs.LaysM.n171 Tryz.prog Tryz.lays171_ren := {
  mixed := by kernel_rfl
  f129 := Tryz.func170.trans (congrArg some (by kernel_rfl))
  f171 := Tryz.func121.trans (congrArg some (by kernel_rfl))
  f243 := Tryz.func147.trans (congrArg some (by kernel_rfl))
  f246 := Tryz.func163.trans (congrArg some (by kernel_rfl))
  f283 := Tryz.func157.trans (congrArg some (by kernel_rfl))
  f284 := Tryz.func158.trans (congrArg some (by kernel_rfl))
  f285 := Tryz.func159.trans (congrArg some (by kernel_rfl))
  f286 := Tryz.func160.trans (congrArg some (by kernel_rfl))
  f317 := Tryz.func169.trans (congrArg some (by kernel_rfl))
  f318 := Tryz.func171.trans (congrArg some (by kernel_rfl))
  f319 := Tryz.func172.trans (congrArg some (by kernel_rfl))
  f320 := Tryz.func173.trans (congrArg some (by kernel_rfl))
  f337 := Tryz.func176.trans (congrArg some (by kernel_rfl))
  f338 := Tryz.func177.trans (congrArg some (by kernel_rfl))
  t0 := Tryz.underlying0
  a0 := Tryz.isAgg0
  z0 := Tryz.sizeOf0
  v0 := Tryz.zeroValue0
  t2 := Tryz.underlying2
  a2 := Tryz.isAgg2
  z2 := Tryz.sizeOf2
  v2 := Tryz.zeroValue2
  t3 := Tryz.underlying3
  a3 := Tryz.isAgg3
  z3 := Tryz.sizeOf3
  v3 := Tryz.zeroValue3
  t4 := Tryz.underlying4
  a4 := Tryz.isAgg4
  z4 := Tryz.sizeOf4
  v4 := Tryz.zeroValue4
  t5 := Tryz.underlying5
  a5 := Tryz.isAgg5
  z5 := Tryz.sizeOf5
  v5 := Tryz.zeroValue5
  t9 := Tryz.underlying9
  a9 := Tryz.isAgg9
  z9 := Tryz.sizeOf9
  v9 := Tryz.zeroValue9
  t20 := Tryz.underlying20
  a20 := Tryz.isAgg20
  z20 := Tryz.sizeOf20
  v20 := Tryz.zeroValue20
  t37 := Tryz.underlying112
  a37 := Tryz.isAgg112
  z37 := Tryz.sizeOf112
  v37 := Tryz.zeroValue112
  t46 := Tryz.underlying129
  a46 := Tryz.isAgg129
  z46 := Tryz.sizeOf129
  v46 := Tryz.zeroValue129
  t51 := Tryz.underlying159
  a51 := Tryz.isAgg159
  z51 := Tryz.sizeOf159
  v51 := Tryz.zeroValue159
  t53 := Tryz.underlying126
  a53 := Tryz.isAgg126
  z53 := Tryz.sizeOf126
  v53 := Tryz.zeroValue126
  t171 := Tryz.underlying174
  a171 := Tryz.isAgg174
  z171 := Tryz.sizeOf174
  v171 := Tryz.zeroValue174
  t173 := Tryz.underlying177
  a173 := Tryz.isAgg177
  z173 := Tryz.sizeOf177
  v173 := Tryz.zeroValue177
  t212 := Tryz.underlying193
  a212 := Tryz.isAgg193
  z212 := Tryz.sizeOf193
  v212 := Tryz.zeroValue193
  t213 := Tryz.underlying194
  a213 := Tryz.isAgg194
  z213 := Tryz.sizeOf194
  t232 := Tryz.underlying198
  a232 := Tryz.isAgg198
  z232 := Tryz.sizeOf198
  v232 := Tryz.zeroValue198
  t233 := Tryz.underlying199
  a233 := Tryz.isAgg199
  z233 := Tryz.sizeOf199
  v233 := Tryz.zeroValue199
  g17 := by kernel_rfl
  g18 := by kernel_rfl
  g19 := by kernel_rfl
  i0 := by kernel_rfl
  i2 := by kernel_rfl
  i3 := by kernel_rfl
  i4 := by kernel_rfl
  i5 := by kernel_rfl
  i9 := by kernel_rfl
  i20 := by kernel_rfl
  i37 := by kernel_rfl
  i46 := by kernel_rfl
  i51 := by kernel_rfl
  i53 := by kernel_rfl
  i171 := by kernel_rfl
  i173 := by kernel_rfl
  i212 := by kernel_rfl
  i232 := by kernel_rfl
  i233 := by kernel_rfl
  m17 := by kernel_rfl
  m18 := by kernel_rfl
  m19 := by kernel_rfl }
end Go.Proofs

/-
  strconv.Itoa, over the table of the powers of ten.
-/
namespace Go.Proofs.YthpignffnnpboaaGreatDoor
set_option linter.unusedSimpArgs false
set_option linter.unusedVariables false
open Go.RowKit Go.Shelf

theorem below_grow (w : World) (k : Nat) (os : Array Obj) : Below w.heap.size w (Go.Sort.grow (w.drewN k) os) := by
  refine ⟨rfl, rfl, rfl, ?_, fun i hi => ?_⟩
  · show w.heap.size ≤ (w.heap ++ os).size
    rw [Array.size_append]; omega
  · show (w.heap ++ os)[i]? = w.heap[i]?
    rw [Array.getElem?_append_left hi]
theorem tab_pow10 {w : World} (h : Good w) : Lib.TabIs Tryz.prog w "internal/strconv.uint64pow10" .u64 Lib.pow10Tab := by
  obtain ⟨u, f, hc⟩ := h (5, .u64, Lib.pow10Tab) (by unfold tabs; exact List.mem_of_getElem? (i := 0) rfl) |>.at (by unfold Lib.pow10Tab; simp)
  unfold Lib.TabIs World.var?
  rw [show Tryz.prog.globalNamed "internal/strconv.uint64pow10" = some 5 by kernel_rfl]
  simp only [Option.bind_some]
  rw [hc]
def m_strconv_Itoa (n : Int) : Option (List UInt8) := if -9223372036854775808 ≤ n ∧ n ≤ 9223372036854775807 then some (Lib.itoa n) else none
theorem spec_strconv_Itoa (n : Int) : ∀ r, m_strconv_Itoa n = some r → PureSpec Tryz.prog 121 [.int .i64 n] (.str r) := by
  intro r hr
  unfold m_strconv_Itoa at hr
  split at hr
  · rename_i h
    cases hr
    refine ⟨by kernel_rfl, fun w M vs hM hv hgood => ?_⟩
    simp only [RepL, Rep] at hv
    obtain ⟨u, us, rfl, rfl, rfl⟩ := hv
    refine Calls.mono (Any.strconv_Itoa Tryz.lays171 n h.1 h.2 w (tab_pow10 hgood)) ?_
    rintro e w' ⟨rfl, k, os, rfl⟩
    exact ⟨_, rfl, by simp [Rep], below_grow w k os⟩
  · cases hr
end Go.Proofs.YthpignffnnpboaaGreatDoor

/-
  DERIVED: THE SHELF's CONTRACTS AT THIS DUMP, IN PLAIN WORDS (tools/lay-plain.mjs out of 'YthpignffnnpboaaGreatDoorShelfR.lean', which tools/lay-shelf.mjs wrote): THE SAME DECLARATIONS UNDER THE SAME NAMES: 'import', 'namespace', 'open', 'def', 'theorem' AND NOTHING ELSE: no command of the shelf's: FOR A HAND-IN. Each laying: the table of numbers ('.._ren') and one theorem, a field a fact of the dump's own or the kernel's comparison; each contract: ONE APPLICATION.
-/
namespace Go.Proofs
open Go.Shelf
def Tryz.lays105_ren : Go.Shelf.Ren := ⟨fun | 105 => 86 | 212 => 116 | 99 => 51 | 165 => 117 | 166 => 118 | 170 => 119 | 169 => 120 | 263 => 143 | 264 => 144 | 206 => 82 | 240 => 145 | 241 => 146 | 276 => 161 | 277 => 162 | n => n, fun | 9 => 9 | 3 => 3 | 4 => 4 | 20 => 20 | 0 => 0 | 46 => 129 | 109 => 130 | 5 => 5 | 72 => 134 | 76 => 108 | 51 => 159 | 146 => 160 | 53 => 126 | 148 => 163 | 70 => 132 | 37 => 112 | 75 => 107 | 127 => 165 | 164 => 179 | 80 => 137 | n => n, fun | n => n⟩
theorem Tryz.lays105 : Go.Proofs.Lays.n105 Tryz.prog Tryz.lays105_ren := {
  mixed := by kernel_rfl
  f99 := Tryz.func51.trans (congrArg some (by kernel_rfl))
  f105 := Tryz.func86.trans (congrArg some (by kernel_rfl))
  f165 := Tryz.func117.trans (congrArg some (by kernel_rfl))
  f166 := Tryz.func118.trans (congrArg some (by kernel_rfl))
  f169 := Tryz.func120.trans (congrArg some (by kernel_rfl))
  f170 := Tryz.func119.trans (congrArg some (by kernel_rfl))
  f206 := Tryz.func82.trans (congrArg some (by kernel_rfl))
  f212 := Tryz.func116.trans (congrArg some (by kernel_rfl))
  f240 := Tryz.func145.trans (congrArg some (by kernel_rfl))
  f241 := Tryz.func146.trans (congrArg some (by kernel_rfl))
  f263 := Tryz.func143.trans (congrArg some (by kernel_rfl))
  f264 := Tryz.func144.trans (congrArg some (by kernel_rfl))
  f276 := Tryz.func161.trans (congrArg some (by kernel_rfl))
  f277 := Tryz.func162.trans (congrArg some (by kernel_rfl))
  t0 := Tryz.underlying0
  a0 := Tryz.isAgg0
  z0 := Tryz.sizeOf0
  v0 := Tryz.zeroValue0
  t3 := Tryz.underlying3
  a3 := Tryz.isAgg3
  z3 := Tryz.sizeOf3
  v3 := Tryz.zeroValue3
  t4 := Tryz.underlying4
  a4 := Tryz.isAgg4
  z4 := Tryz.sizeOf4
  v4 := Tryz.zeroValue4
  t5 := Tryz.underlying5
  a5 := Tryz.isAgg5
  z5 := Tryz.sizeOf5
  v5 := Tryz.zeroValue5
  t9 := Tryz.underlying9
  a9 := Tryz.isAgg9
  z9 := Tryz.sizeOf9
  v9 := Tryz.zeroValue9
  t20 := Tryz.underlying20
  a20 := Tryz.isAgg20
  z20 := Tryz.sizeOf20
  v20 := Tryz.zeroValue20
  t37 := Tryz.underlying112
  a37 := Tryz.isAgg112
  z37 := Tryz.sizeOf112
  v37 := Tryz.zeroValue112
  t46 := Tryz.underlying129
  a46 := Tryz.isAgg129
  z46 := Tryz.sizeOf129
  v46 := Tryz.zeroValue129
  t51 := Tryz.underlying159
  a51 := Tryz.isAgg159
  z51 := Tryz.sizeOf159
  v51 := Tryz.zeroValue159
  t53 := Tryz.underlying126
  a53 := Tryz.isAgg126
  z53 := Tryz.sizeOf126
  v53 := Tryz.zeroValue126
  t70 := Tryz.underlying132
  a70 := Tryz.isAgg132
  z70 := Tryz.sizeOf132
  v70 := Tryz.zeroValue132
  t72 := Tryz.underlying134
  a72 := Tryz.isAgg134
  z72 := Tryz.sizeOf134
  v72 := Tryz.zeroValue134
  t75 := Tryz.underlying107
  a75 := Tryz.isAgg107
  z75 := Tryz.sizeOf107
  v75 := Tryz.zeroValue107
  t76 := Tryz.underlying108
  a76 := Tryz.isAgg108
  z76 := Tryz.sizeOf108
  v76 := Tryz.zeroValue108
  t109 := Tryz.underlying130
  a109 := Tryz.isAgg130
  z109 := Tryz.sizeOf130
  v109 := Tryz.zeroValue130
  t127 := Tryz.underlying165
  a127 := Tryz.isAgg165
  z127 := Tryz.sizeOf165
  v127 := Tryz.zeroValue165
  t146 := Tryz.underlying160
  a146 := Tryz.isAgg160
  z146 := Tryz.sizeOf160
  v146 := Tryz.zeroValue160
  t148 := Tryz.underlying163
  a148 := Tryz.isAgg163
  z148 := Tryz.sizeOf163
  v148 := Tryz.zeroValue163
  t164 := Tryz.underlying179
  a164 := Tryz.isAgg179
  z164 := Tryz.sizeOf179
  v164 := Tryz.zeroValue179 }
end Go.Proofs

/-
  strings.Repeat.
-/
namespace Go.Proofs.YthpignffnnpboaaGreatDoor
set_option linter.unusedSimpArgs false
set_option linter.unusedVariables false
open Go.RowKit Go.Shelf

set_option maxRecDepth 100000 in
theorem builderX : Go.Proofs.Builder.Extra Tryz.prog Tryz.lays105_ren where
  sizeBuilder := by kernel_rfl
  liesBuilder := by kernel_rfl
  t5 := Tryz.underlying5
  a5 := Tryz.isAgg5
  z5 := Tryz.sizeOf5
  v5 := Tryz.zeroValue5
  infoByte := by kernel_rfl
  cellsByte := by kernel_rfl
  sizeByte := by kernel_rfl
  neB5 := by decide
def m_strings_Repeat (s : List UInt8) (c : Int) : Option (List UInt8) := if 0 ≤ c ∧ c ≤ 1000000 ∧ s.length ≤ 1000000 then some (Lib.repeatL s c.toNat) else none
theorem spec_strings_Repeat (s : List UInt8) (c : Int) : ∀ r, m_strings_Repeat s c = some r → PureSpec Tryz.prog 86 [.str s, .int .i64 c] (.str r) := by
  intro r hr
  unfold m_strings_Repeat at hr
  split at hr
  · rename_i h
    cases hr
    obtain ⟨h0, h1, h2⟩ := h
    obtain ⟨k, rfl⟩ : ∃ k : Nat, c = (k : Int) := ⟨c.toNat, by omega⟩
    refine ⟨by kernel_rfl, fun w M vs hM hv hgood => ?_⟩
    simp only [RepL, Rep] at hv
    obtain ⟨u, us, rfl, rfl, u', us', rfl, rfl, rfl⟩ := hv
    have hs : (⟨s.toArray⟩ : ByteArray).size = s.length := by simp [ByteArray.size]
    have hk : k ≤ 1000000 := by omega
    refine Calls.mono (Any.strings_Repeat Tryz.lays105 builderX ⟨s.toArray⟩ k w (by omega) (by rw [hs]; exact Nat.le_trans (Nat.mul_le_mul h2 hk) (by decide))) ?_
    rintro e w' ⟨rfl, hB⟩
    exact ⟨_, rfl, by simp [Rep], hB⟩
  · cases hr
end Go.Proofs.YthpignffnnpboaaGreatDoor

/-
  DERIVED: THE SHELF's CONTRACTS AT THIS DUMP, IN PLAIN WORDS (tools/lay-plain.mjs out of 'YthpignffnnpboaaGreatDoorShelfV.lean', which tools/lay-shelf.mjs wrote): THE SAME DECLARATIONS UNDER THE SAME NAMES: 'import', 'namespace', 'open', 'def', 'theorem' AND NOTHING ELSE: no command of the shelf's: FOR A HAND-IN. Each laying: the table of numbers ('.._ren') and one theorem, a field a fact of the dump's own or the kernel's comparison; each contract: ONE APPLICATION.
-/
namespace Go.Proofs
open Go.Shelf
def Tryz.lays146_ren : Go.Shelf.Ren := ⟨fun | 146 => 38 | 221 => 70 | 268 => 102 | 138 => 103 | 143 => 104 | 195 => 125 | 197 => 126 | 218 => 127 | 219 => 79 | 260 => 150 | 217 => 111 | 225 => 112 | 224 => 113 | 267 => 114 | 266 => 141 | 314 => 142 | n => n, fun | 9 => 9 | 31 => 32 | 3 => 3 | 4 => 4 | 0 => 0 | 105 => 144 | 21 => 21 | 5 => 5 | 46 => 129 | 119 => 183 | 139 => 186 | 138 => 185 | 146 => 160 | 51 => 159 | n => n, fun | 1 => 0 | 3 => 3 | 4 => 4 | n => n⟩
theorem Tryz.lays146 : Go.Proofs.LaysM.n146 Tryz.prog Tryz.lays146_ren := {
  mixed := by kernel_rfl
  f138 := Tryz.func103.trans (congrArg some (by kernel_rfl))
  f143 := Tryz.func104.trans (congrArg some (by kernel_rfl))
  f146 := Tryz.func38.trans (congrArg some (by kernel_rfl))
  f195 := Tryz.func125.trans (congrArg some (by kernel_rfl))
  f197 := Tryz.func126.trans (congrArg some (by kernel_rfl))
  f217 := Tryz.func111.trans (congrArg some (by kernel_rfl))
  f218 := Tryz.func127.trans (congrArg some (by kernel_rfl))
  f219 := Tryz.func79.trans (congrArg some (by kernel_rfl))
  f221 := Tryz.func70.trans (congrArg some (by kernel_rfl))
  f224 := Tryz.func113.trans (congrArg some (by kernel_rfl))
  f225 := Tryz.func112.trans (congrArg some (by kernel_rfl))
  f260 := Tryz.func150.trans (congrArg some (by kernel_rfl))
  f266 := Tryz.func141.trans (congrArg some (by kernel_rfl))
  f267 := Tryz.func114.trans (congrArg some (by kernel_rfl))
  f268 := Tryz.func102.trans (congrArg some (by kernel_rfl))
  f314 := Tryz.func142.trans (congrArg some (by kernel_rfl))
  t0 := Tryz.underlying0
  a0 := Tryz.isAgg0
  z0 := Tryz.sizeOf0
  v0 := Tryz.zeroValue0
  t3 := Tryz.underlying3
  a3 := Tryz.isAgg3
  z3 := Tryz.sizeOf3
  v3 := Tryz.zeroValue3
  t4 := Tryz.underlying4
  a4 := Tryz.isAgg4
  z4 := Tryz.sizeOf4
  v4 := Tryz.zeroValue4
  t5 := Tryz.underlying5
  a5 := Tryz.isAgg5
  z5 := Tryz.sizeOf5
  v5 := Tryz.zeroValue5
  t9 := Tryz.underlying9
  a9 := Tryz.isAgg9
  z9 := Tryz.sizeOf9
  v9 := Tryz.zeroValue9
  t21 := Tryz.underlying21
  a21 := Tryz.isAgg21
  z21 := Tryz.sizeOf21
  v21 := Tryz.zeroValue21
  t31 := Tryz.underlying32
  a31 := Tryz.isAgg32
  z31 := Tryz.sizeOf32
  v31 := Tryz.zeroValue32
  t46 := Tryz.underlying129
  a46 := Tryz.isAgg129
  z46 := Tryz.sizeOf129
  v46 := Tryz.zeroValue129
  t51 := Tryz.underlying159
  a51 := Tryz.isAgg159
  z51 := Tryz.sizeOf159
  v51 := Tryz.zeroValue159
  t105 := Tryz.underlying144
  a105 := Tryz.isAgg144
  z105 := Tryz.sizeOf144
  v105 := Tryz.zeroValue144
  t119 := Tryz.underlying183
  a119 := Tryz.isAgg183
  z119 := Tryz.sizeOf183
  t138 := Tryz.underlying185
  a138 := Tryz.isAgg185
  z138 := Tryz.sizeOf185
  v138 := Tryz.zeroValue185
  t139 := Tryz.underlying186
  a139 := Tryz.isAgg186
  z139 := Tryz.sizeOf186
  v139 := Tryz.zeroValue186
  t146 := Tryz.underlying160
  a146 := Tryz.isAgg160
  z146 := Tryz.sizeOf160
  v146 := Tryz.zeroValue160
  g1 := by kernel_rfl
  g3 := by kernel_rfl
  g4 := by kernel_rfl
  i0 := by kernel_rfl
  i3 := by kernel_rfl
  i4 := by kernel_rfl
  i5 := by kernel_rfl
  i9 := by kernel_rfl
  i21 := by kernel_rfl
  i31 := by kernel_rfl
  i46 := by kernel_rfl
  i51 := by kernel_rfl
  i105 := by kernel_rfl
  i138 := by kernel_rfl
  i139 := by kernel_rfl
  i146 := by kernel_rfl
  m1 := by kernel_rfl
  s1_3 := fun w h => Go.Proofs.cell_of_shapedOpen_int (zero := #[.int .i64 0]) (t := 3) h (of_decide_eq_true (by kernel_rfl)) (by kernel_rfl) rfl (by kernel_rfl) (by kernel_rfl) Tryz.underlying3
  m3 := by kernel_rfl
  m4 := by kernel_rfl }
def Tryz.lays147_ren : Go.Shelf.Ren := ⟨fun | 147 => 47 | 221 => 70 | 268 => 102 | 138 => 103 | 143 => 104 | 195 => 125 | 197 => 126 | 218 => 127 | 219 => 79 | 260 => 150 | 217 => 111 | 225 => 112 | 224 => 113 | 267 => 114 | 266 => 141 | 314 => 142 | n => n, fun | 9 => 9 | 3 => 3 | 31 => 32 | 4 => 4 | 0 => 0 | 105 => 144 | 21 => 21 | 5 => 5 | 46 => 129 | 119 => 183 | 139 => 186 | 138 => 185 | 146 => 160 | 51 => 159 | n => n, fun | 1 => 0 | 3 => 3 | 4 => 4 | n => n⟩
theorem Tryz.lays147 : Go.Proofs.LaysM.n147 Tryz.prog Tryz.lays147_ren := {
  mixed := by kernel_rfl
  f138 := Tryz.func103.trans (congrArg some (by kernel_rfl))
  f143 := Tryz.func104.trans (congrArg some (by kernel_rfl))
  f147 := Tryz.func47.trans (congrArg some (by kernel_rfl))
  f195 := Tryz.func125.trans (congrArg some (by kernel_rfl))
  f197 := Tryz.func126.trans (congrArg some (by kernel_rfl))
  f217 := Tryz.func111.trans (congrArg some (by kernel_rfl))
  f218 := Tryz.func127.trans (congrArg some (by kernel_rfl))
  f219 := Tryz.func79.trans (congrArg some (by kernel_rfl))
  f221 := Tryz.func70.trans (congrArg some (by kernel_rfl))
  f224 := Tryz.func113.trans (congrArg some (by kernel_rfl))
  f225 := Tryz.func112.trans (congrArg some (by kernel_rfl))
  f260 := Tryz.func150.trans (congrArg some (by kernel_rfl))
  f266 := Tryz.func141.trans (congrArg some (by kernel_rfl))
  f267 := Tryz.func114.trans (congrArg some (by kernel_rfl))
  f268 := Tryz.func102.trans (congrArg some (by kernel_rfl))
  f314 := Tryz.func142.trans (congrArg some (by kernel_rfl))
  t0 := Tryz.underlying0
  a0 := Tryz.isAgg0
  z0 := Tryz.sizeOf0
  v0 := Tryz.zeroValue0
  t3 := Tryz.underlying3
  a3 := Tryz.isAgg3
  z3 := Tryz.sizeOf3
  v3 := Tryz.zeroValue3
  t4 := Tryz.underlying4
  a4 := Tryz.isAgg4
  z4 := Tryz.sizeOf4
  v4 := Tryz.zeroValue4
  t5 := Tryz.underlying5
  a5 := Tryz.isAgg5
  z5 := Tryz.sizeOf5
  v5 := Tryz.zeroValue5
  t9 := Tryz.underlying9
  a9 := Tryz.isAgg9
  z9 := Tryz.sizeOf9
  v9 := Tryz.zeroValue9
  t21 := Tryz.underlying21
  a21 := Tryz.isAgg21
  z21 := Tryz.sizeOf21
  v21 := Tryz.zeroValue21
  t31 := Tryz.underlying32
  a31 := Tryz.isAgg32
  z31 := Tryz.sizeOf32
  v31 := Tryz.zeroValue32
  t46 := Tryz.underlying129
  a46 := Tryz.isAgg129
  z46 := Tryz.sizeOf129
  v46 := Tryz.zeroValue129
  t51 := Tryz.underlying159
  a51 := Tryz.isAgg159
  z51 := Tryz.sizeOf159
  v51 := Tryz.zeroValue159
  t105 := Tryz.underlying144
  a105 := Tryz.isAgg144
  z105 := Tryz.sizeOf144
  v105 := Tryz.zeroValue144
  t119 := Tryz.underlying183
  a119 := Tryz.isAgg183
  z119 := Tryz.sizeOf183
  t138 := Tryz.underlying185
  a138 := Tryz.isAgg185
  z138 := Tryz.sizeOf185
  v138 := Tryz.zeroValue185
  t139 := Tryz.underlying186
  a139 := Tryz.isAgg186
  z139 := Tryz.sizeOf186
  v139 := Tryz.zeroValue186
  t146 := Tryz.underlying160
  a146 := Tryz.isAgg160
  z146 := Tryz.sizeOf160
  v146 := Tryz.zeroValue160
  g1 := by kernel_rfl
  g3 := by kernel_rfl
  g4 := by kernel_rfl
  i0 := by kernel_rfl
  i3 := by kernel_rfl
  i4 := by kernel_rfl
  i5 := by kernel_rfl
  i9 := by kernel_rfl
  i21 := by kernel_rfl
  i31 := by kernel_rfl
  i46 := by kernel_rfl
  i51 := by kernel_rfl
  i105 := by kernel_rfl
  i138 := by kernel_rfl
  i139 := by kernel_rfl
  i146 := by kernel_rfl
  m1 := by kernel_rfl
  s1_3 := fun w h => Go.Proofs.cell_of_shapedOpen_int (zero := #[.int .i64 0]) (t := 3) h (of_decide_eq_true (by kernel_rfl)) (by kernel_rfl) rfl (by kernel_rfl) (by kernel_rfl) Tryz.underlying3
  m3 := by kernel_rfl
  m4 := by kernel_rfl }
def Tryz.lays145_ren : Go.Shelf.Ren := ⟨fun | 145 => 21 | 220 => 46 | 219 => 79 | 217 => 111 | 225 => 112 | 224 => 113 | 267 => 114 | 266 => 141 | 314 => 142 | n => n, fun | 9 => 9 | 4 => 4 | 59 => 47 | 3 => 3 | 5 => 5 | 46 => 129 | 146 => 160 | 51 => 159 | n => n, fun | 1 => 0 | n => n⟩
theorem Tryz.lays145 : Go.Proofs.LaysM.n145 Tryz.prog Tryz.lays145_ren := {
  mixed := by kernel_rfl
  f145 := Tryz.func21.trans (congrArg some (by kernel_rfl))
  f217 := Tryz.func111.trans (congrArg some (by kernel_rfl))
  f219 := Tryz.func79.trans (congrArg some (by kernel_rfl))
  f220 := Tryz.func46.trans (congrArg some (by kernel_rfl))
  f224 := Tryz.func113.trans (congrArg some (by kernel_rfl))
  f225 := Tryz.func112.trans (congrArg some (by kernel_rfl))
  f266 := Tryz.func141.trans (congrArg some (by kernel_rfl))
  f267 := Tryz.func114.trans (congrArg some (by kernel_rfl))
  f314 := Tryz.func142.trans (congrArg some (by kernel_rfl))
  t3 := Tryz.underlying3
  a3 := Tryz.isAgg3
  z3 := Tryz.sizeOf3
  v3 := Tryz.zeroValue3
  t4 := Tryz.underlying4
  a4 := Tryz.isAgg4
  z4 := Tryz.sizeOf4
  v4 := Tryz.zeroValue4
  t5 := Tryz.underlying5
  a5 := Tryz.isAgg5
  z5 := Tryz.sizeOf5
  v5 := Tryz.zeroValue5
  t9 := Tryz.underlying9
  a9 := Tryz.isAgg9
  z9 := Tryz.sizeOf9
  v9 := Tryz.zeroValue9
  t46 := Tryz.underlying129
  a46 := Tryz.isAgg129
  z46 := Tryz.sizeOf129
  v46 := Tryz.zeroValue129
  t51 := Tryz.underlying159
  a51 := Tryz.isAgg159
  z51 := Tryz.sizeOf159
  v51 := Tryz.zeroValue159
  t59 := Tryz.underlying47
  a59 := Tryz.isAgg47
  z59 := Tryz.sizeOf47
  v59 := Tryz.zeroValue47
  t146 := Tryz.underlying160
  a146 := Tryz.isAgg160
  z146 := Tryz.sizeOf160
  v146 := Tryz.zeroValue160
  g1 := by kernel_rfl
  i3 := by kernel_rfl
  i4 := by kernel_rfl
  i5 := by kernel_rfl
  i9 := by kernel_rfl
  i46 := by kernel_rfl
  i51 := by kernel_rfl
  i59 := by kernel_rfl
  i146 := by kernel_rfl
  m1 := by kernel_rfl
  s1_3 := fun w h => Go.Proofs.cell_of_shapedOpen_int (zero := #[.int .i64 0]) (t := 3) h (of_decide_eq_true (by kernel_rfl)) (by kernel_rfl) rfl (by kernel_rfl) (by kernel_rfl) Tryz.underlying3 }
def Tryz.lays104_ren : Go.Shelf.Ren := ⟨fun | 104 => 37 | 211 => 69 | 207 => 101 | n => n, fun | 9 => 9 | 4 => 4 | 24 => 71 | 3 => 3 | n => n, fun | n => n⟩
theorem Tryz.lays104 : Go.Proofs.Lays.n104 Tryz.prog Tryz.lays104_ren := {
  mixed := by kernel_rfl
  f104 := Tryz.func37.trans (congrArg some (by kernel_rfl))
  f207 := Tryz.func101.trans (congrArg some (by kernel_rfl))
  f211 := Tryz.func69.trans (congrArg some (by kernel_rfl))
  t3 := Tryz.underlying3
  a3 := Tryz.isAgg3
  z3 := Tryz.sizeOf3
  v3 := Tryz.zeroValue3
  t4 := Tryz.underlying4
  a4 := Tryz.isAgg4
  z4 := Tryz.sizeOf4
  v4 := Tryz.zeroValue4
  t9 := Tryz.underlying9
  a9 := Tryz.isAgg9
  z9 := Tryz.sizeOf9
  v9 := Tryz.zeroValue9
  t24 := Tryz.underlying71
  a24 := Tryz.isAgg71
  z24 := Tryz.sizeOf71
  v24 := Tryz.zeroValue71 }
def Tryz.lays172_ren : Go.Shelf.Ren := ⟨fun | 172 => 74 | 244 => 106 | 245 => 107 | 247 => 128 | 279 => 129 | 280 => 130 | 281 => 131 | 282 => 132 | 287 => 151 | 316 => 152 | 171 => 121 | 205 => 153 | 321 => 165 | 322 => 166 | 243 => 147 | 246 => 163 | 283 => 157 | 284 => 158 | 285 => 159 | 286 => 160 | 129 => 170 | 317 => 169 | 318 => 171 | 319 => 172 | 320 => 173 | 337 => 176 | 338 => 177 | n => n, fun | 9 => 9 | 3 => 3 | 75 => 107 | 76 => 108 | 4 => 4 | 5 => 5 | 167 => 146 | 37 => 112 | 0 => 0 | 85 => 147 | 2 => 2 | 168 => 149 | 53 => 126 | 175 => 166 | 46 => 129 | 210 => 170 | 127 => 165 | 145 => 190 | 143 => 188 | 21 => 21 | 171 => 174 | 173 => 177 | 212 => 193 | 51 => 159 | 20 => 20 | 213 => 194 | 232 => 198 | 233 => 199 | 80 => 137 | n => n, fun | 15 => 1 | 16 => 2 | 17 => 5 | 18 => 6 | 19 => 7 | n => n⟩
theorem Tryz.lays172 : Go.Proofs.Lays.n172 Tryz.prog Tryz.lays172_ren := {
  mixed := by kernel_rfl
  f129 := Tryz.func170.trans (congrArg some (by kernel_rfl))
  f171 := Tryz.func121.trans (congrArg some (by kernel_rfl))
  f172 := Tryz.func74.trans (congrArg some (by kernel_rfl))
  f205 := Tryz.func153.trans (congrArg some (by kernel_rfl))
  f243 := Tryz.func147.trans (congrArg some (by kernel_rfl))
  f244 := Tryz.func106.trans (congrArg some (by kernel_rfl))
  f245 := Tryz.func107.trans (congrArg some (by kernel_rfl))
  f246 := Tryz.func163.trans (congrArg some (by kernel_rfl))
  f247 := Tryz.func128.trans (congrArg some (by kernel_rfl))
  f279 := Tryz.func129.trans (congrArg some (by kernel_rfl))
  f280 := Tryz.func130.trans (congrArg some (by kernel_rfl))
  f281 := Tryz.func131.trans (congrArg some (by kernel_rfl))
  f282 := Tryz.func132.trans (congrArg some (by kernel_rfl))
  f283 := Tryz.func157.trans (congrArg some (by kernel_rfl))
  f284 := Tryz.func158.trans (congrArg some (by kernel_rfl))
  f285 := Tryz.func159.trans (congrArg some (by kernel_rfl))
  f286 := Tryz.func160.trans (congrArg some (by kernel_rfl))
  f287 := Tryz.func151.trans (congrArg some (by kernel_rfl))
  f316 := Tryz.func152.trans (congrArg some (by kernel_rfl))
  f317 := Tryz.func169.trans (congrArg some (by kernel_rfl))
  f318 := Tryz.func171.trans (congrArg some (by kernel_rfl))
  f319 := Tryz.func172.trans (congrArg some (by kernel_rfl))
  f320 := Tryz.func173.trans (congrArg some (by kernel_rfl))
  f321 := Tryz.func165.trans (congrArg some (by kernel_rfl))
  f322 := Tryz.func166.trans (congrArg some (by kernel_rfl))
  f337 := Tryz.func176.trans (congrArg some (by kernel_rfl))
  f338 := Tryz.func177.trans (congrArg some (by kernel_rfl))
  t0 := Tryz.underlying0
  a0 := Tryz.isAgg0
  z0 := Tryz.sizeOf0
  v0 := Tryz.zeroValue0
  t2 := Tryz.underlying2
  a2 := Tryz.isAgg2
  z2 := Tryz.sizeOf2
  v2 := Tryz.zeroValue2
  t3 := Tryz.underlying3
  a3 := Tryz.isAgg3
  z3 := Tryz.sizeOf3
  v3 := Tryz.zeroValue3
  t4 := Tryz.underlying4
  a4 := Tryz.isAgg4
  z4 := Tryz.sizeOf4
  v4 := Tryz.zeroValue4
  t5 := Tryz.underlying5
  a5 := Tryz.isAgg5
  z5 := Tryz.sizeOf5
  v5 := Tryz.zeroValue5
  t9 := Tryz.underlying9
  a9 := Tryz.isAgg9
  z9 := Tryz.sizeOf9
  v9 := Tryz.zeroValue9
  t20 := Tryz.underlying20
  a20 := Tryz.isAgg20
  z20 := Tryz.sizeOf20
  v20 := Tryz.zeroValue20
  t21 := Tryz.underlying21
  a21 := Tryz.isAgg21
  z21 := Tryz.sizeOf21
  v21 := Tryz.zeroValue21
  t37 := Tryz.underlying112
  a37 := Tryz.isAgg112
  z37 := Tryz.sizeOf112
  v37 := Tryz.zeroValue112
  t46 := Tryz.underlying129
  a46 := Tryz.isAgg129
  z46 := Tryz.sizeOf129
  v46 := Tryz.zeroValue129
  t51 := Tryz.underlying159
  a51 := Tryz.isAgg159
  z51 := Tryz.sizeOf159
  v51 := Tryz.zeroValue159
  t53 := Tryz.underlying126
  a53 := Tryz.isAgg126
  z53 := Tryz.sizeOf126
  v53 := Tryz.zeroValue126
  t75 := Tryz.underlying107
  a75 := Tryz.isAgg107
  z75 := Tryz.sizeOf107
  v75 := Tryz.zeroValue107
  t76 := Tryz.underlying108
  a76 := Tryz.isAgg108
  z76 := Tryz.sizeOf108
  v76 := Tryz.zeroValue108
  t85 := Tryz.underlying147
  a85 := Tryz.isAgg147
  z85 := Tryz.sizeOf147
  v85 := Tryz.zeroValue147
  t127 := Tryz.underlying165
  a127 := Tryz.isAgg165
  z127 := Tryz.sizeOf165
  v127 := Tryz.zeroValue165
  t143 := Tryz.underlying188
  a143 := Tryz.isAgg188
  z143 := Tryz.sizeOf188
  v143 := Tryz.zeroValue188
  t145 := Tryz.underlying190
  a145 := Tryz.isAgg190
  z145 := Tryz.sizeOf190
  v145 := Tryz.zeroValue190
  t167 := Tryz.underlying146
  a167 := Tryz.isAgg146
  z167 := Tryz.sizeOf146
  v167 := Tryz.zeroValue146
  t168 := Tryz.underlying149
  a168 := Tryz.isAgg149
  z168 := Tryz.sizeOf149
  v168 := Tryz.zeroValue149
  t171 := Tryz.underlying174
  a171 := Tryz.isAgg174
  z171 := Tryz.sizeOf174
  v171 := Tryz.zeroValue174
  t173 := Tryz.underlying177
  a173 := Tryz.isAgg177
  z173 := Tryz.sizeOf177
  v173 := Tryz.zeroValue177
  t175 := Tryz.underlying166
  a175 := Tryz.isAgg166
  z175 := Tryz.sizeOf166
  v175 := Tryz.zeroValue166
  t210 := Tryz.underlying170
  a210 := Tryz.isAgg170
  z210 := Tryz.sizeOf170
  v210 := Tryz.zeroValue170
  t212 := Tryz.underlying193
  a212 := Tryz.isAgg193
  z212 := Tryz.sizeOf193
  v212 := Tryz.zeroValue193
  t213 := Tryz.underlying194
  a213 := Tryz.isAgg194
  z213 := Tryz.sizeOf194
  t232 := Tryz.underlying198
  a232 := Tryz.isAgg198
  z232 := Tryz.sizeOf198
  v232 := Tryz.zeroValue198
  t233 := Tryz.underlying199
  a233 := Tryz.isAgg199
  z233 := Tryz.sizeOf199
  v233 := Tryz.zeroValue199
  g15 := by kernel_rfl
  g16 := by kernel_rfl
  g17 := by kernel_rfl
  g18 := by kernel_rfl
  g19 := by kernel_rfl }
end Go.Proofs

/-
  strings.Split, SplitN, Cut (over the one number of the library that no row lists), CutSuffix, strconv.Atoi at numerals.
-/
namespace Go.Proofs.YthpignffnnpboaaGreatDoor
set_option linter.unusedSimpArgs false
set_option linter.unusedVariables false
open Go.RowKit Go.Shelf

theorem maxLen_at {w : World} (h : Good w) : ∃ m, w.cell? ⟨0, 0, none⟩ = some (.int .i64 m) :=
  TabAt.int (t := (0, .i64, [])) (h (0, .i64, []) (by unfold tabs; simp)) rfl
theorem repRows_strs {w : World} {M : Nat → Prop} {b : Nat} : ∀ (xs : List ByteArray) (o : Nat), (∀ j x, xs[j]? = some x → w.cell? ⟨b, o + j, none⟩ = some (.string x)) → RepRows w M ((xs.map (·.data.toList)).map rowS) b o 1
  | [], o, _ => by simp [RepRows]
  | x :: xs, o, h => by
    simp only [List.map_cons]
    unfold RepRows
    refine ⟨rfl, ?_, repRows_strs xs (o + 1) fun j y hy => by have := h (j + 1) y (by simpa using hy); rwa [show o + (j + 1) = o + 1 + j by omega] at this⟩
    unfold rowS RepAt
    refine ⟨⟨.string x, by simpa using h 0 x rfl, rfl, ?_⟩, by unfold RepAt; trivial⟩
    unfold Rep
    rw [Lib.mk_data]
theorem alloc_cell (w : World) (C : Array Value) (T : TypeId) (j : Nat) : (w.alloc (.cells C T)).cell? ⟨w.heap.size, j, none⟩ = C[j]? := by
  have hh : (w.alloc (.cells C T)).heap[w.heap.size]? = some (.cells C T) := by
    show (w.heap.push _)[w.heap.size]? = _
    simp
  unfold World.cell?
  rw [hh]
  rfl
theorem strs_rep {w : World} {M : Nat → Prop} {xs : List ByteArray} {C : Array Value} {T : TypeId} {cap : Nat} (hM : ∀ b, M b → b < w.heap.size) (hc : ∀ (j : Nat) (x : ByteArray), xs[j]? = some x → C[j]? = some (Value.string x)) (hcap : xs.length ≤ cap) :
    Rep (w.alloc (.cells C T)) M (.slice ((xs.map (·.data.toList)).map rowS)) (.slice (some ⟨w.heap.size, 0, none⟩) xs.length cap) := by
  unfold Rep
  refine ⟨_, _, by rw [List.length_map, List.length_map], by rw [List.length_map, List.length_map]; exact hcap, (fun h => by cases h), .inr ⟨w.heap.size, 0, 1, rfl, fun h => absurd (hM _ h) (Nat.lt_irrefl _), ?_, ?_⟩⟩
  · show _ < (w.heap.push _).size
    rw [Array.size_push]; omega
  · exact repRows_strs xs 0 fun j x hx => by rw [Nat.zero_add, alloc_cell]; exact hc j x hx
theorem below_alloc (w : World) (o : Obj) : Below w.heap.size w (w.alloc o) := (Below.refl _ w).alloc (Nat.le_refl _) _
def m_strings_Split (s sep : List UInt8) : Option (List (List UInt8)) := if s.length < 4294967281 ∧ 1 ≤ sep.length then some (Lib.split s sep) else none
theorem spec_strings_Split (s sep : List UInt8) : ∀ r, m_strings_Split s sep = some r → PureSpec Tryz.prog 38 [.str s, .str sep] (.slice (List.map rowS r)) := by
  intro r hr
  unfold m_strings_Split at hr
  split at hr
  · rename_i h
    cases hr
    refine ⟨by kernel_rfl, fun w M vs hM hv hgood => ?_⟩
    simp only [RepL, Rep] at hv
    obtain ⟨u, us, rfl, rfl, u', us', rfl, rfl, rfl⟩ := hv
    obtain ⟨m, hm⟩ := maxLen_at hgood
    have h1 : (⟨s.toArray⟩ : ByteArray).size < 4294967281 := by simpa [ByteArray.size] using h.1
    have h2 : 1 ≤ (⟨sep.toArray⟩ : ByteArray).size := by simpa [ByteArray.size] using h.2
    refine Calls.mono (Any.strings_Split { Tryz.lays146 with } Tryz.lays146.i9 ⟨s.toArray⟩ ⟨sep.toArray⟩ m w h1 hm h2) ?_
    rintro e w' ⟨rfl, rfl⟩
    have hlen := Lib.splitB_all ⟨sep.toArray⟩ h2 0 _ ⟨s.toArray⟩ rfl
    have hdat := Lib.splitB_data ⟨sep.toArray⟩ 0 (Lib.countB ⟨s.toArray⟩ ⟨sep.toArray⟩) ⟨s.toArray⟩
    refine ⟨_, rfl, ?_, below_alloc _ _⟩
    have := fun T => strs_rep (w := w) (M := M) (T := T) (xs := Lib.splitB ⟨sep.toArray⟩ 0 (Lib.countB ⟨s.toArray⟩ ⟨sep.toArray⟩) ⟨s.toArray⟩) (C := ((Lib.splitB ⟨sep.toArray⟩ 0 (Lib.countB ⟨s.toArray⟩ ⟨sep.toArray⟩) ⟨s.toArray⟩).map Value.string).toArray) (cap := Lib.countB ⟨s.toArray⟩ ⟨sep.toArray⟩ + 1) hM (fun j x hx => by simp [hx]) (by omega)
    simp only [hdat, hlen] at this
    exact this _
  · cases hr
/-! ### strings.SplitN -/
def m_strings_SplitN (s sep : List UInt8) (n : Int) : Option (List (List UInt8)) := if s.length < 4294967281 ∧ 1 ≤ sep.length ∧ 1 ≤ n ∧ n ≤ 9223372036854775807 then some (Lib.splitN s sep n.toNat) else none
theorem spec_strings_SplitN (s sep : List UInt8) (n : Int) : ∀ r, m_strings_SplitN s sep n = some r → PureSpec Tryz.prog 47 [.str s, .str sep, .int .i64 n] (.slice (List.map rowS r)) := by
  intro r hr
  unfold m_strings_SplitN at hr
  split at hr
  · rename_i h
    cases hr
    obtain ⟨k, rfl⟩ : ∃ k : Nat, n = (k : Int) := ⟨n.toNat, by omega⟩
    refine ⟨by kernel_rfl, fun w M vs hM hv hgood => ?_⟩
    simp only [RepL, Rep] at hv
    obtain ⟨u, us, rfl, rfl, u', us', rfl, rfl, u'', us'', rfl, rfl, rfl⟩ := hv
    obtain ⟨m, hm⟩ := maxLen_at hgood
    have hz : (⟨s.toArray⟩ : ByteArray).size = s.length := by simp [ByteArray.size]
    have h1 : (⟨s.toArray⟩ : ByteArray).size < 4294967281 := by simpa [ByteArray.size] using h.1
    have h2 : 1 ≤ (⟨sep.toArray⟩ : ByteArray).size := by simpa [ByteArray.size] using h.2.1
    refine Calls.mono (Any.strings_SplitN { Tryz.lays147 with } Tryz.lays147.i9 ⟨s.toArray⟩ ⟨sep.toArray⟩ k m w h1 hm h2 (by omega) (by omega)) ?_
    rintro e w' ⟨rfl, rfl⟩
    have hlen := Lib.splitB_length_le ⟨sep.toArray⟩ 0 (min k ((⟨s.toArray⟩ : ByteArray).size + 1) - 1) ⟨s.toArray⟩
    have hdat := Lib.splitB_data ⟨sep.toArray⟩ 0 (min k ((⟨s.toArray⟩ : ByteArray).size + 1) - 1) ⟨s.toArray⟩
    have hd2 : (Lib.splitB ⟨sep.toArray⟩ 0 (min k ((⟨s.toArray⟩ : ByteArray).size + 1) - 1) ⟨s.toArray⟩).map (·.data.toList) = Lib.splitN s sep k := by
      rw [hdat, hz]; rfl
    refine ⟨_, rfl, ?_, below_alloc _ _⟩
    rw [Int.toNat_natCast, ← hd2]
    refine strs_rep (w := w) (M := M) hM (fun j x hx => ?_) (by omega)
    unfold Lib.cellsOf
    simp only [List.getElem?_toArray]
    rw [List.getElem?_append_left (by have := (List.getElem?_eq_some_iff.1 hx).1; simpa using this), List.getElem?_map, hx]
    rfl
  · cases hr
/-! ### strings.Cut, CutSuffix -/
theorem below_drewN' (w : World) (q : Nat) : Below w.heap.size w (w.drewN q) := ⟨rfl, rfl, rfl, Nat.le_refl _, fun _ _ => rfl⟩
def m_strings_Cut (s sep : List UInt8) : Option (List UInt8 × List UInt8 × Bool) := if s.length < 4294967281 then some (Lib.cut s sep) else none
theorem spec_strings_Cut (s sep : List UInt8) : ∀ r, m_strings_Cut s sep = some r → PureSpec Tryz.prog 21 [.str s, .str sep] (.tup [.str r.1, .str r.2.1, .bool r.2.2]) := by
  intro r hr
  unfold m_strings_Cut at hr
  split at hr
  · rename_i h
    cases hr
    refine ⟨by kernel_rfl, fun w M vs hM hv hgood => ?_⟩
    simp only [RepL, Rep] at hv
    obtain ⟨u, us, rfl, rfl, u', us', rfl, rfl, rfl⟩ := hv
    obtain ⟨m, hm⟩ := maxLen_at hgood
    refine Calls.mono (Any.strings_Cut { Tryz.lays145 with } ⟨s.toArray⟩ ⟨sep.toArray⟩ m w (by simpa [ByteArray.size] using h) hm) ?_
    rintro e w' ⟨rfl, q, rfl⟩
    refine ⟨_, rfl, ?_, below_drewN' _ _⟩
    unfold Rep
    refine ⟨_, rfl, ?_⟩
    simp [RepL, Rep]
  · cases hr
def m_strings_CutSuffix (s p : List UInt8) : Option (List UInt8 × Bool) := if s.length ≤ 9223372036854775807 then some (Lib.trimSuffix s p, Lib.hasSuffix s p) else none
theorem spec_strings_CutSuffix (s p : List UInt8) : ∀ r, m_strings_CutSuffix s p = some r → PureSpec Tryz.prog 37 [.str s, .str p] (.tup [.str r.1, .bool r.2]) := by
  intro r hr
  unfold m_strings_CutSuffix at hr
  split at hr
  · rename_i h
    cases hr
    refine ⟨by kernel_rfl, fun w M vs hM hv hgood => ?_⟩
    simp only [RepL, Rep] at hv
    obtain ⟨u, us, rfl, rfl, u', us', rfl, rfl, rfl⟩ := hv
    refine Calls.mono (Any.strings_CutSuffix Tryz.lays104 ⟨s.toArray⟩ ⟨p.toArray⟩ w (by simpa [ByteArray.size] using h)) ?_
    rintro e w' ⟨rfl, rfl⟩
    refine ⟨_, rfl, ?_, Below.refl _ _⟩
    unfold Rep
    refine ⟨_, rfl, ?_⟩
    simp [RepL, Rep]
  · cases hr
/-! ### strconv.Atoi -/
noncomputable def m_strconv_Atoi (s : List UInt8) : Option Int := if s.length ≤ 18 then Lib.atoi s else none
theorem spec_strconv_Atoi (s : List UInt8) : ∀ r, m_strconv_Atoi s = some r → PureSpec Tryz.prog 74 [.str s] (.tup [.int .i64 r, .raw .nilIface]) := by
  intro r hr
  unfold m_strconv_Atoi at hr
  split at hr
  · rename_i h
    refine ⟨by kernel_rfl, fun w M vs hM hv hgood => ?_⟩
    simp only [RepL, Rep] at hv
    obtain ⟨u, us, rfl, rfl, rfl⟩ := hv
    refine Calls.mono (Any.strconv_Atoi Tryz.lays172 ⟨s.toArray⟩ r (by simpa [ByteArray.size] using h) hr w) ?_
    rintro e w' ⟨rfl, t, rfl⟩
    refine ⟨_, rfl, ?_, ⟨rfl, rfl, rfl, by rw [Lib.bytesWorld_size]; omega, fun j hj => Lib.bytesWorld_at_old w _ t j hj⟩⟩
    unfold Rep
    refine ⟨_, rfl, ?_⟩
    simp [RepL, Rep]
  · cases hr
end Go.Proofs.YthpignffnnpboaaGreatDoor

/-
  DERIVED: THE SHELF's CONTRACTS AT THIS DUMP, IN PLAIN WORDS (tools/lay-plain.mjs out of 'YthpignffnnpboaaGreatDoorShelfW.lean', which tools/lay-shelf.mjs wrote): THE SAME DECLARATIONS UNDER THE SAME NAMES: 'import', 'namespace', 'open', 'def', 'theorem' AND NOTHING ELSE: no command of the shelf's: FOR A HAND-IN. Each laying: the table of numbers ('.._ren') and one theorem, a field a fact of the dump's own or the kernel's comparison; each contract: ONE APPLICATION.
-/
namespace Go.Proofs
open Go.Shelf
def Tryz.lays103_ren : Go.Shelf.Ren := ⟨fun | 103 => 44 | 210 => 75 | 206 => 82 | n => n, fun | 9 => 9 | 4 => 4 | 24 => 71 | 3 => 3 | n => n, fun | n => n⟩
theorem Tryz.lays103 : Go.Proofs.Lays.n103 Tryz.prog Tryz.lays103_ren := {
  mixed := by kernel_rfl
  f103 := Tryz.func44.trans (congrArg some (by kernel_rfl))
  f206 := Tryz.func82.trans (congrArg some (by kernel_rfl))
  f210 := Tryz.func75.trans (congrArg some (by kernel_rfl))
  t3 := Tryz.underlying3
  a3 := Tryz.isAgg3
  z3 := Tryz.sizeOf3
  v3 := Tryz.zeroValue3
  t4 := Tryz.underlying4
  a4 := Tryz.isAgg4
  z4 := Tryz.sizeOf4
  v4 := Tryz.zeroValue4
  t9 := Tryz.underlying9
  a9 := Tryz.isAgg9
  z9 := Tryz.sizeOf9
  v9 := Tryz.zeroValue9
  t24 := Tryz.underlying71
  a24 := Tryz.isAgg71
  z24 := Tryz.sizeOf71
  v24 := Tryz.zeroValue71 }
end Go.Proofs

/-
  strings.CutPrefix.
-/
namespace Go.Proofs.YthpignffnnpboaaGreatDoor
set_option linter.unusedSimpArgs false
set_option linter.unusedVariables false
open Go.RowKit Go.Shelf

def m_strings_CutPrefix (s p : List UInt8) : Option (List UInt8 × Bool) := some (Lib.trimPrefix s p, Lib.hasPrefix s p)
theorem spec_strings_CutPrefix (s p : List UInt8) : ∀ r, m_strings_CutPrefix s p = some r → PureSpec Tryz.prog 44 [.str s, .str p] (.tup [.str r.1, .bool r.2]) := by
  intro r hr
  unfold m_strings_CutPrefix at hr
  cases hr
  refine ⟨by kernel_rfl, fun w M vs hM hv hgood => ?_⟩
  simp only [RepL, Rep] at hv
  obtain ⟨u, us, rfl, rfl, u', us', rfl, rfl, rfl⟩ := hv
  refine Calls.mono (Any.strings_CutPrefix Tryz.lays103 ⟨s.toArray⟩ ⟨p.toArray⟩ w) ?_
  rintro e w' ⟨rfl, rfl⟩
  refine ⟨_, rfl, ?_, Below.refl _ _⟩
  unfold Rep
  refine ⟨_, rfl, ?_⟩
  simp [RepL, Rep]
end Go.Proofs.YthpignffnnpboaaGreatDoor

/-
  math/bits.TrailingZeros64 at the one number at which it is asked here.
-/
namespace Go.Proofs.YthpignffnnpboaaGreatDoor
set_option linter.unusedSimpArgs false
set_option linter.unusedVariables false
open Go.RowKit

theorem tz0 : bits BinOp.and IntKind.u64 16 (IntKind.u64.wrap (-16)) = 16 := by decide
theorem tz1 : IntKind.u64.wrap (16 * 285870213051353865) = 4573923408821661840 := by decide
attribute [local simp] tz0 tz1
def m_math_bits_TrailingZeros64 (x : Int) : Option Int := if x = 16 then some 4 else none
set_option maxRecDepth 100000 in
theorem spec_math_bits_TrailingZeros64 (x : Int) : ∀ r, m_math_bits_TrailingZeros64 x = some r → PureSpec Tryz.prog 177 [.int .u64 x] (.int .i64 r) := by
  intro r hr
  unfold m_math_bits_TrailingZeros64 at hr
  split at hr
  · rename_i h
    subst h
    cases hr
    refine ⟨by kernel_rfl, fun w M vs hM hv hgood => ?_⟩
    simp only [RepL, Rep] at hv
    obtain ⟨u, us, rfl, rfl, rfl⟩ := hv
    obtain ⟨u, f, hc⟩ := (hgood (tabs[1]) (List.getElem_mem (by decide))).at (by decide)
    have hcell : w.cell? ⟨7, 15, none⟩ = some (.int .u8 4) := by
      unfold World.cell?
      simp only
      rw [show 7 = (tabs[1]).1 from rfl, hc]
      rfl
    show Calls Tryz.prog 177 #[.int .u64 16] w _
    go_enter Tryz.func177, Tryz.ntmps177
    go_wp2
    go_ret
    exact ⟨_, rfl, by simp [Rep], Below.refl _ _⟩
  · cases hr
end Go.Proofs.YthpignffnnpboaaGreatDoor

/-
  Bodies of functions and what they compute, printed by programs of mine (wip/tool/gen.py, sc.py) out of the translation; the kernel holds each against the translation.
-/
namespace Go.Proofs.YthpignffnnpboaaGreatDoor
open Go.RowKit
set_option linter.unusedSimpArgs false
set_option linter.unusedVariables false
/-- internal/strconv.isPowerOfTwo -/
def sc_internal_strconv_isPowerOfTwo : SC :=
  (.seq (.reg [.r 2 (.mv (.c (.d (.bool false))))])
  (.seq (.reg [.r 3 (.mv (.t 0)),
     .r 4 (.mv (.t 0)),
     .r 5 (.bin .sub (.t 4) (.c (.d (.int .i64 1)))),
     .r 6 (.bin .and (.t 3) (.t 5)),
     .r 7 (.bin .eql (.t 6) (.c (.d (.int .i64 0)))),
     .r 2 (.mv (.t 7))])
  .ret))
theorem fit_internal_strconv_isPowerOfTwo : fits Tryz.prog 172 Tryz.f172 sc_internal_strconv_isPowerOfTwo [.t 2] 1 = true := by kernel_rfl

/-- math/bits.TrailingZeros -/
def sc_math_bits_TrailingZeros : SC :=
  (.seq (.reg [.r 2 (.mv (.c (.d (.int .i64 0))))])
  (.seq (.cond (.c (.d (.bool false)))
    .any
    .skip)
  (.seq (.reg [.r 6 (.mv (.t 0)),
     .c 7 (.f 177) [.t 6],
     .r 2 (.mv (.t 7))])
  .ret)))
theorem fit_math_bits_TrailingZeros : fits Tryz.prog 173 Tryz.f173 sc_math_bits_TrailingZeros [.t 2] 1 = true := by kernel_rfl

set_option maxRecDepth 100000 in
set_option maxHeartbeats 40000000 in
noncomputable def sims_F1_0_0 : (∀ (x0 : Int), {m : Option (Bool) // ∀ r, m = some r → PureSpec Tryz.prog 172 [.int .i64 x0] (.bool r)}) × (∀ (x0 : Int), {m : Option (Int) // ∀ r, m = some r → PureSpec Tryz.prog 173 [.int .u64 x0] (.int .i64 r)}) := by
  refine ⟨?g0, ?g1⟩
  case' g0 => (intro x0; apply Subtype.mk; intro r hm; apply pure_walk Tryz.func172 fit_internal_strconv_isPowerOfTwo; unfold sc_internal_strconv_isPowerOfTwo)
  case' g1 => (intro x0; apply Subtype.mk; intro r hm; apply pure_walk Tryz.func173 fit_math_bits_TrailingZeros; unfold sc_math_bits_TrailingZeros)
  all_goals (repeat' (first | with_reducible refine W_seq ?_ | with_reducible refine W_reg ?_ | with_reducible refine W_block ?_ | with_reducible refine W_skip ?_ | with_reducible refine W_ret ?_ | with_reducible refine W_exit ?_ | with_reducible refine O_nil ?_ | with_reducible refine K_seq ?_ | with_reducible refine K_seqE ?_ | with_reducible refine K_seqR ?_ | with_reducible refine K_block ?_ | with_reducible refine K_blockR ?_ | with_reducible refine K_blockE ?_ | ((with_reducible apply K_blockN); decide) | ((with_reducible apply O_r); (simp only [push_cast, seval]; rfl); (first | exact trivial | omega)) | (with_reducible apply W_any hm) | ((with_reducible apply W_condT); (focus (simp only [push_cast, seval]; done))) | ((with_reducible apply W_condF); (focus (simp only [push_cast, seval]; done))) | ((with_reducible apply O_cF hm); (simp only [push_cast, seval]; rfl); (first | apply spec_math_bits_TrailingZeros64 _); (any_goals ((repeat' (first | rfl | (with_reducible first | apply f_optN | apply f_optS | apply f_some | apply f_tup | apply f_agg | apply f_ptr | apply f_fn | apply dv_slice | apply sv_d | apply f_cons | apply fold_nil | apply fold_cons | apply fold_app | apply f_rowI | apply f_rowY | apply f_rowS | apply f_rowB | apply f_rowL) | (with_reducible apply f_byte; decide))); done)); intro x hm) | ((with_reducible apply S_condB hm); (simp only [push_cast, seval]; rfl); intro hm; rotate_left; intro hm) | ((with_reducible apply K_endS hm); (focus (simp only [resOf, resL, RV.get, push_cast, seval]; rfl)); (focus ((repeat' (first | rfl | (with_reducible first | apply f_optN | apply f_optS | apply f_some | apply f_tup | apply f_agg | apply f_ptr | apply f_fn | apply dv_slice | apply sv_d | apply f_cons | apply fold_nil | apply fold_cons | apply fold_app | apply f_rowI | apply f_rowY | apply f_rowS | apply f_rowB | apply f_rowL) | (with_reducible apply f_byte; decide))); done)))))
noncomputable def m_internal_strconv_isPowerOfTwo (x0 : Int) : Option (Bool) := (sims_F1_0_0.1 x0).1
theorem spec_internal_strconv_isPowerOfTwo (x0 : Int) : ∀ r, m_internal_strconv_isPowerOfTwo x0 = some r → PureSpec Tryz.prog 172 [.int .i64 x0] (.bool r) := (sims_F1_0_0.1 x0).2
noncomputable def m_math_bits_TrailingZeros (x0 : Int) : Option (Int) := (sims_F1_0_0.2 x0).1
theorem spec_math_bits_TrailingZeros (x0 : Int) : ∀ r, m_math_bits_TrailingZeros x0 = some r → PureSpec Tryz.prog 173 [.int .u64 x0] (.int .i64 r) := (sims_F1_0_0.2 x0).2

def sc_internal_strconv_formatBits_L1 : SC :=
  (.seq (.seq (.reg [.r 44 (.mv (.t 1)),
     .r 45 (.mv (.t 15)),
     .r 46 (.bin .geq (.t 44) (.t 45))])
  (.cond (.t 46)
    .skip
    (.exit 0)))
  (.block 1 (.seq (.reg [.r 47 (.mv (.t 13)),
       .r 48 (.bin .sub (.t 47) (.c (.d (.int .i64 1)))),
       .r 13 (.mv (.t 48))])
    (.seq (.reg [.r 49 (.mv (.t 13)),
       .r 50 (.mv (.t 1)),
       .r 51 (.mv (.t 16)),
       .r 52 (.bin .and (.t 50) (.t 51)),
       .r 53 (.sidx (.c (.d (.str [48, 49, 50, 51, 52, 53, 54, 55, 56, 57, 97, 98, 99, 100, 101, 102, 103, 104, 105, 106, 107, 108, 109, 110, 111, 112, 113, 114, 115, 116, 117, 118, 119, 120, 121, 122]))) (.t 52)),
       .r 54 (.aidx 1 65 (.t 12) (.t 49)),
       .w 0 (.st 1 (.t 54) (.t 53))])
    (.reg [.r 55 (.mv (.t 1)),
       .r 56 (.mv (.t 14)),
       .r 57 (.bin .shr (.t 55) (.t 56)),
       .r 1 (.mv (.t 57))])))))
def sc_internal_strconv_formatBits_B1 : SC := .block 0 (.loop sc_internal_strconv_formatBits_L1)
def sc_internal_strconv_formatBits_R30 : SC := (.reg [.r 99 (.mv (.t 13)),
     .r 100 (.slcP 65 (.t 12) (.t 99)),
     .r 101 (.cvbs (.t 100)),
     .r 11 (.mv (.t 101))])
/-- internal/strconv.formatBits -/
def sc_internal_strconv_formatBits : SC :=
  (.seq (.reg [.r 10 (.mv (.c (.nils))),
     .r 11 (.mv (.c (.d (.str []))))])
  (.seq (.seq (.reg (.r 19 (.mv (.t 2)) :: .r 20 (.bin .lss (.t 19) (.c (.d (.int .i64 2)))) :: .r 21 (.mv (.t 20)) :: gapp [22, 23] 21 false (.r 22 (.mv (.t 2)) :: .r 23 (.bin .eql (.t 22) (.c (.d (.int .i64 10)))) :: []) (.r 24 (.pick (.t 21) (.c (.d (.bool true))) (.t 23)) :: .r 25 (.mv (.t 24)) :: gapp [26, 27] 25 false (.r 26 (.mv (.t 2)) :: .r 27 (.bin .gtr (.t 26) (.c (.d (.int .i64 36)))) :: []) (.r 28 (.pick (.t 25) (.c (.d (.bool true))) (.t 27)) :: []))))
  (.cond (.t 28)
    .any
    .skip))
  (.seq (.reg [.w 12 (.boxM (.c (.agg [.d (.int .u8 0), .d (.int .u8 0), .d (.int .u8 0), .d (.int .u8 0), .d (.int .u8 0), .d (.int .u8 0), .d (.int .u8 0), .d (.int .u8 0), .d (.int .u8 0), .d (.int .u8 0), .d (.int .u8 0), .d (.int .u8 0), .d (.int .u8 0), .d (.int .u8 0), .d (.int .u8 0), .d (.int .u8 0), .d (.int .u8 0), .d (.int .u8 0), .d (.int .u8 0), .d (.int .u8 0), .d (.int .u8 0), .d (.int .u8 0), .d (.int .u8 0), .d (.int .u8 0), .d (.int .u8 0), .d (.int .u8 0), .d (.int .u8 0), .d (.int .u8 0), .d (.int .u8 0), .d (.int .u8 0), .d (.int .u8 0), .d (.int .u8 0), .d (.int .u8 0), .d (.int .u8 0), .d (.int .u8 0), .d (.int .u8 0), .d (.int .u8 0), .d (.int .u8 0), .d (.int .u8 0), .d (.int .u8 0), .d (.int .u8 0), .d (.int .u8 0), .d (.int .u8 0), .d (.int .u8 0), .d (.int .u8 0), .d (.int .u8 0), .d (.int .u8 0), .d (.int .u8 0), .d (.int .u8 0), .d (.int .u8 0), .d (.int .u8 0), .d (.int .u8 0), .d (.int .u8 0), .d (.int .u8 0), .d (.int .u8 0), .d (.int .u8 0), .d (.int .u8 0), .d (.int .u8 0), .d (.int .u8 0), .d (.int .u8 0), .d (.int .u8 0), .d (.int .u8 0), .d (.int .u8 0), .d (.int .u8 0), .d (.int .u8 0)])))])
  (.seq (.reg [.r 13 (.mv (.c (.d (.int .i64 65))))])
  (.seq (.seq (.reg [.r 30 (.mv (.t 3))])
  (.cond (.t 30)
    .any
    .skip))
  (.seq (.seq (.reg [.r 33 (.mv (.t 2)),
     .c 34 (.f 172) [.t 33]])
  (.cond (.t 34)
    (.seq (.reg [.r 35 (.mv (.t 2)),
       .r 36 (.cvi .u64 (.t 35)),
       .c 37 (.f 173) [.t 36],
       .r 38 (.cvi .u64 (.t 37)),
       .r 14 (.mv (.t 38))])
    (.seq (.reg [.r 39 (.mv (.t 2)),
       .r 40 (.cvi .u64 (.t 39)),
       .r 15 (.mv (.t 40))])
    (.seq (.reg [.r 41 (.mv (.t 2)),
       .r 42 (.cvi .u64 (.t 41)),
       .r 43 (.bin .sub (.t 42) (.c (.d (.int .u64 1)))),
       .r 16 (.mv (.t 43))])
    (.seq sc_internal_strconv_formatBits_B1
    (.seq (.reg [.r 58 (.mv (.t 13)),
       .r 59 (.bin .sub (.t 58) (.c (.d (.int .i64 1)))),
       .r 13 (.mv (.t 59))])
    (.reg [.r 60 (.mv (.t 13)),
       .r 61 (.mv (.t 1)),
       .r 62 (.sidx (.c (.d (.str [48, 49, 50, 51, 52, 53, 54, 55, 56, 57, 97, 98, 99, 100, 101, 102, 103, 104, 105, 106, 107, 108, 109, 110, 111, 112, 113, 114, 115, 116, 117, 118, 119, 120, 121, 122]))) (.t 61)),
       .r 63 (.aidx 1 65 (.t 12) (.t 60)),
       .w 0 (.st 1 (.t 63) (.t 62))]))))))
    .any))
  (.seq (.seq (.reg [.r 89 (.mv (.t 3))])
  (.cond (.t 89)
    .any
    .skip))
  (.seq (.seq (.reg [.r 94 (.mv (.t 4))])
  (.cond (.t 94)
    .any
    .skip))
  (.seq sc_internal_strconv_formatBits_R30
  .ret)))))))))
theorem fit_internal_strconv_formatBits : fits Tryz.prog 160 Tryz.f160 sc_internal_strconv_formatBits [.t 10, .t 11] 5 = true := by kernel_rfl

set_option maxRecDepth 100000 in
set_option maxHeartbeats 40000000 in
noncomputable def sims_F1_1_0 : (∀ (x0 : List UInt8) (x1 : Int) (x2 : Int) (x3 : Bool) (x4 : Bool), {m : Option ((List UInt8) × (List UInt8)) // ∀ r, m = some r → PureSpec Tryz.prog 160 [.slice (List.map rowY x0), .int .u64 x1, .int .i64 x2, .bool x3, .bool x4] (.tup [.slice (List.map rowY r.1), .str r.2])}) := by
  (intro x0 x1 x2 x3 x4; apply Subtype.mk; intro r hm; apply pure_walk Tryz.func160 fit_internal_strconv_formatBits; unfold sc_internal_strconv_formatBits)
  repeat' (first | ((apply W_frzB (x := sc_internal_strconv_formatBits_R30) (id := 12) (slot := 12)); (focus (simp only [push_cast, seval]; (try rfl); done)); (focus (simp only [push_cast, seval]; (try rfl); done)); (focus (simp only [push_cast, seval]; (try rfl); done)); unfold sc_internal_strconv_formatBits_R30) | with_reducible refine W_seq ?_ | with_reducible refine W_reg ?_ | with_reducible refine W_block ?_ | with_reducible refine W_skip ?_ | with_reducible refine W_ret ?_ | with_reducible refine W_exit ?_ | with_reducible refine O_nil ?_ | with_reducible refine K_seq ?_ | with_reducible refine K_seqE ?_ | with_reducible refine K_seqR ?_ | with_reducible refine K_block ?_ | with_reducible refine K_blockR ?_ | with_reducible refine K_blockE ?_ | ((with_reducible apply K_blockN); decide) | ((with_reducible apply O_sidxr hm); (iterate 2 (simp only [push_cast, seval]; rfl)); intro e hm) | ((with_reducible apply O_cvbsD); (simp only [push_cast, seval]; rfl)) | ((with_reducible apply O_cvbsL); (simp only [push_cast, seval]; rfl); (focus (repeat' (first | exact bytesC_nil | with_reducible apply bytesC_cons)))) | ((with_reducible apply O_cvbsV); (iterate 2 (simp only [push_cast, seval]; rfl))) | ((with_reducible apply O_aidxr hm); (iterate 2 (simp only [push_cast, seval]; rfl)); intro hm) | ((with_reducible apply O_r); (simp only [push_cast, seval]; rfl); (first | exact trivial | omega)) | ((with_reducible apply O_ldCr hm); (iterate 2 (simp only [push_cast, seval]; rfl)); intro a hm) | ((with_reducible apply O_shr hm); (iterate 2 (simp only [push_cast, seval]; rfl)); intro hm) | ((with_reducible apply O_slcPY hm); (iterate 2 (simp only [push_cast, seval]; rfl)); intro hm) | (with_reducible apply W_any hm) | ((with_reducible apply O_or hm); (simp only [push_cast, seval]; rfl); rfl; intro v hm; rotate_left; intro v g hm) | ((with_reducible apply W_condT); (focus (simp only [push_cast, seval]; done))) | ((with_reducible apply W_condF); (focus (simp only [push_cast, seval]; done))) | ((with_reducible apply O_cF hm); (simp only [push_cast, seval]; rfl); (first | apply spec_internal_strconv_isPowerOfTwo _ | apply spec_math_bits_TrailingZeros _); (any_goals ((repeat' (first | rfl | (with_reducible first | apply f_optN | apply f_optS | apply f_some | apply f_tup | apply f_agg | apply f_ptr | apply f_fn | apply dv_slice | apply sv_d | apply f_cons | apply fold_nil | apply fold_cons | apply fold_app | apply f_rowI | apply f_rowY | apply f_rowS | apply f_rowB | apply f_rowL) | (with_reducible apply f_byte; decide))); done)); intro x hm) | ((with_reducible apply O_w); (simp only [push_cast, seval]; rfl); (first | exact trivial | omega)) | ((with_reducible apply O_stC hm); (iterate 3 (simp only [push_cast, seval]; rfl)); (focus ((repeat' (first | rfl | (with_reducible first | apply f_optN | apply f_optS | apply f_some | apply f_tup | apply f_agg | apply f_ptr | apply f_fn | apply dv_slice | apply sv_d | apply f_cons | apply fold_nil | apply fold_cons | apply fold_app | apply f_rowI | apply f_rowY | apply f_rowS | apply f_rowB | apply f_rowL) | (with_reducible apply f_byte; decide))); done)); rfl; intro e hm) | ((with_reducible apply S_condB hm); (simp only [push_cast, seval]; rfl); intro hm; rotate_left; intro hm) | ((with_reducible apply K_end2 hm); (focus (simp only [resOf, resL, RV.get, push_cast, seval]; rfl)); (focus (first | (dsimp only; done) | (dsimp only; rfl) | rfl)); (focus ((repeat' (first | rfl | (with_reducible first | apply f_optN | apply f_optS | apply f_some | apply f_tup | apply f_agg | apply f_ptr | apply f_fn | apply dv_slice | apply sv_d | apply f_cons | apply fold_nil | apply fold_cons | apply fold_app | apply f_rowI | apply f_rowY | apply f_rowS | apply f_rowB | apply f_rowL) | (with_reducible apply f_byte; decide))); done))) | ((with_reducible apply K_bool hm); (simp only [push_cast, seval]; rfl)) | ((with_reducible apply K_leave hm); intro r hm) | ((with_reducible apply K_leaveR hm); intro r hm) | ((apply S_loopY (b := 0) (X := sc_internal_strconv_formatBits_B1) (x := sc_internal_strconv_formatBits_L1) rfl (fun (c : SV × SV × SV × SV × SV × SV) (s : Int × (List UInt8) × Int) => st [(1, .d (.int .u64 s.1)), (3, c.1), (4, c.2.1), (10, c.2.2.1), (12, .ref 12 0), (13, .d (.int .i64 s.2.2)), (14, c.2.2.2.1), (15, c.2.2.2.2.1), (16, c.2.2.2.2.2)] [(12, .box (vcells cY s.2.1))]) (c := (_, _, _, _, _, _)) (s0 := (_, _, _)) hm); (focus (first | (dsimp only; done) | (dsimp only; rfl) | rfl)); (with_reducible refine Then.mk ?_ ?_)) | ((apply K_next (s' := (_, _, _)) hm); (focus (first | (dsimp only; done) | (dsimp only; rfl) | rfl))) | ((apply K_brk (s' := (_, _, _)) hm); (focus (first | (dsimp only; done) | (dsimp only; rfl) | rfl))) | (((with_reducible apply K_brkN hm); (focus decide); intro r hm)) | (((with_reducible apply K_brkR hm); intro r hm)) | (((with_reducible apply LoopB.of); (focus (first | (dsimp only; done) | (dsimp only; rfl) | rfl)); (focus ((intro _; repeat' (first | with_reducible exact impC_end | with_reducible exact impC_endF | with_reducible refine impC_seq ?_ | with_reducible refine impC_block ?_ | ((with_reducible refine impC_rnd ?_); intro _) | ((with_reducible refine impC_brk ?_); intro _))))); (intro s o hm; first | unfold sc_internal_strconv_formatBits_L1); rotate_left; intro s hm)) | (((apply imp_stT; (repeat' (first | with_reducible exact keepT_nil | with_reducible exact keepC_nil | with_reducible apply keepT_cons | with_reducible apply keepC_cons | ((with_reducible apply svle_eq); (focus (first | (simp only [push_cast, seval]; rfl) | rfl)); (focus ((repeat' (first | rfl | (with_reducible first | apply f_optN | apply f_optS | apply f_some | apply f_tup | apply f_agg | apply f_ptr | apply f_fn | apply dv_slice | apply sv_d | apply f_cons | apply fold_nil | apply fold_cons | apply fold_app | apply f_rowI | apply f_rowY | apply f_rowS | apply f_rowB | apply f_rowL) | (with_reducible apply f_byte; decide))); done))) | ((with_reducible apply svle_td); (focus (first | (simp only [push_cast, seval]; rfl) | rfl)); (focus (first | (simp only [push_cast, seval]; rfl) | rfl)); (focus ((repeat' (first | rfl | (with_reducible first | apply f_optN | apply f_optS | apply f_some | apply f_tup | apply f_agg | apply f_ptr | apply f_fn | apply dv_slice | apply sv_d | apply f_cons | apply fold_nil | apply fold_cons | apply fold_app | apply f_rowI | apply f_rowY | apply f_rowS | apply f_rowB | apply f_rowL) | (with_reducible apply f_byte; decide))); done))) | ((with_reducible apply chle_eq); (focus (first | (simp only [push_cast, seval]; rfl) | rfl)); (first | with_reducible exact chle_rfl rfl | with_reducible exact chle_map0 | with_reducible apply chle_vec | with_reducible apply chle_box)) | (with_reducible first | apply r_shS | apply r_shI | apply r_rflO | apply r_oneO | apply r_appO | apply r_nilO | apply c_ownN | apply c_ownL | apply vc_rfl | apply vc_nil | apply vc_cons | apply r_rfl | apply r_rows | apply r_nil | apply r_app | apply r_cons | apply c_rowI | apply c_rowY | apply c_rowS | apply c_rowB | apply c_rowL))); done))))
noncomputable def m_internal_strconv_formatBits (x0 : List UInt8) (x1 : Int) (x2 : Int) (x3 : Bool) (x4 : Bool) : Option ((List UInt8) × (List UInt8)) := (sims_F1_1_0 x0 x1 x2 x3 x4).1
theorem spec_internal_strconv_formatBits (x0 : List UInt8) (x1 : Int) (x2 : Int) (x3 : Bool) (x4 : Bool) : ∀ r, m_internal_strconv_formatBits x0 x1 x2 x3 x4 = some r → PureSpec Tryz.prog 160 [.slice (List.map rowY x0), .int .u64 x1, .int .i64 x2, .bool x3, .bool x4] (.tup [.slice (List.map rowY r.1), .str r.2]) := (sims_F1_1_0 x0 x1 x2 x3 x4).2

/-- internal/strconv.FormatUint -/
def sc_internal_strconv_FormatUint : SC :=
  (.seq (.reg [.r 4 (.mv (.c (.d (.str []))))])
  (.seq (.seq (.reg [.r 9 (.mv (.t 1)),
     .r 10 (.bin .eql (.t 9) (.c (.d (.int .i64 10))))])
  (.cond (.t 10)
    .any
    .skip))
  (.seq (.reg [.r 26 (.mv (.t 0)),
     .r 27 (.mv (.t 1)),
     .c 28 (.f 160) [.c (.nils), .t 26, .t 27, .c (.d (.bool false)), .c (.d (.bool false))],
     .r 25 (.mv (.t 28)),
     .r 29 (.ext (.t 25) 0),
     .r 30 (.ext (.t 25) 1),
     .r 7 (.mv (.t 29)),
     .r 8 (.mv (.t 30))])
  (.seq (.reg [.r 31 (.mv (.t 8)),
     .r 4 (.mv (.t 31))])
  .ret))))
theorem fit_internal_strconv_FormatUint : fits Tryz.prog 140 Tryz.f140 sc_internal_strconv_FormatUint [.t 4] 2 = true := by kernel_rfl

set_option maxRecDepth 100000 in
set_option maxHeartbeats 40000000 in
noncomputable def sims_F1_2_0 : (∀ (x0 : Int) (x1 : Int), {m : Option ((List UInt8)) // ∀ r, m = some r → PureSpec Tryz.prog 140 [.int .u64 x0, .int .i64 x1] (.str r)}) := by
  (intro x0 x1; apply Subtype.mk; intro r hm; apply pure_walk Tryz.func140 fit_internal_strconv_FormatUint; unfold sc_internal_strconv_FormatUint)
  repeat' (first | with_reducible refine W_seq ?_ | with_reducible refine W_reg ?_ | with_reducible refine W_block ?_ | with_reducible refine W_skip ?_ | with_reducible refine W_ret ?_ | with_reducible refine W_exit ?_ | with_reducible refine O_nil ?_ | with_reducible refine K_seq ?_ | with_reducible refine K_seqE ?_ | with_reducible refine K_seqR ?_ | with_reducible refine K_block ?_ | with_reducible refine K_blockR ?_ | with_reducible refine K_blockE ?_ | ((with_reducible apply K_blockN); decide) | ((with_reducible apply O_r); (simp only [push_cast, seval]; rfl); (first | exact trivial | omega)) | (with_reducible apply W_any hm) | ((with_reducible apply W_condT); (focus (simp only [push_cast, seval]; done))) | ((with_reducible apply W_condF); (focus (simp only [push_cast, seval]; done))) | ((with_reducible apply O_cF hm); (simp only [push_cast, seval]; rfl); (first | apply spec_internal_strconv_formatBits _ _ _ _ _); (any_goals ((repeat' (first | rfl | (with_reducible first | apply f_optN | apply f_optS | apply f_some | apply f_tup | apply f_agg | apply f_ptr | apply f_fn | apply dv_slice | apply sv_d | apply f_cons | apply fold_nil | apply fold_cons | apply fold_app | apply f_rowI | apply f_rowY | apply f_rowS | apply f_rowB | apply f_rowL) | (with_reducible apply f_byte; decide))); done)); intro x hm) | ((with_reducible apply S_condB hm); (simp only [push_cast, seval]; rfl); intro hm; rotate_left; intro hm) | ((with_reducible apply K_endS hm); (focus (simp only [resOf, resL, RV.get, push_cast, seval]; rfl)); (focus ((repeat' (first | rfl | (with_reducible first | apply f_optN | apply f_optS | apply f_some | apply f_tup | apply f_agg | apply f_ptr | apply f_fn | apply dv_slice | apply sv_d | apply f_cons | apply fold_nil | apply fold_cons | apply fold_app | apply f_rowI | apply f_rowY | apply f_rowS | apply f_rowB | apply f_rowL) | (with_reducible apply f_byte; decide))); done))))
noncomputable def m_internal_strconv_FormatUint (x0 : Int) (x1 : Int) : Option ((List UInt8)) := (sims_F1_2_0 x0 x1).1
theorem spec_internal_strconv_FormatUint (x0 : Int) (x1 : Int) : ∀ r, m_internal_strconv_FormatUint x0 x1 = some r → PureSpec Tryz.prog 140 [.int .u64 x0, .int .i64 x1] (.str r) := (sims_F1_2_0 x0 x1).2

/-- strconv.FormatUint -/
def sc_strconv_FormatUint : SC :=
  (.seq (.reg [.r 4 (.mv (.c (.d (.str []))))])
  (.seq (.reg [.r 5 (.mv (.t 0)),
     .r 6 (.mv (.t 1)),
     .c 7 (.f 140) [.t 5, .t 6],
     .r 4 (.mv (.t 7))])
  .ret))
theorem fit_strconv_FormatUint : fits Tryz.prog 110 Tryz.f110 sc_strconv_FormatUint [.t 4] 2 = true := by kernel_rfl

set_option maxRecDepth 100000 in
set_option maxHeartbeats 40000000 in
noncomputable def sims_F1_3_0 : (∀ (x0 : Int) (x1 : Int), {m : Option ((List UInt8)) // ∀ r, m = some r → PureSpec Tryz.prog 110 [.int .u64 x0, .int .i64 x1] (.str r)}) := by
  (intro x0 x1; apply Subtype.mk; intro r hm; apply pure_walk Tryz.func110 fit_strconv_FormatUint; unfold sc_strconv_FormatUint)
  repeat' (first | with_reducible refine W_seq ?_ | with_reducible refine W_reg ?_ | with_reducible refine W_block ?_ | with_reducible refine W_skip ?_ | with_reducible refine W_ret ?_ | with_reducible refine W_exit ?_ | with_reducible refine O_nil ?_ | with_reducible refine K_seq ?_ | with_reducible refine K_seqE ?_ | with_reducible refine K_seqR ?_ | with_reducible refine K_block ?_ | with_reducible refine K_blockR ?_ | with_reducible refine K_blockE ?_ | ((with_reducible apply K_blockN); decide) | ((with_reducible apply O_r); (simp only [push_cast, seval]; rfl); (first | exact trivial | omega)) | ((with_reducible apply W_condT); (focus (simp only [push_cast, seval]; done))) | ((with_reducible apply W_condF); (focus (simp only [push_cast, seval]; done))) | ((with_reducible apply O_cF hm); (simp only [push_cast, seval]; rfl); (first | apply spec_internal_strconv_FormatUint _ _); (any_goals ((repeat' (first | rfl | (with_reducible first | apply f_optN | apply f_optS | apply f_some | apply f_tup | apply f_agg | apply f_ptr | apply f_fn | apply dv_slice | apply sv_d | apply f_cons | apply fold_nil | apply fold_cons | apply fold_app | apply f_rowI | apply f_rowY | apply f_rowS | apply f_rowB | apply f_rowL) | (with_reducible apply f_byte; decide))); done)); intro x hm) | ((with_reducible apply S_condB hm); (simp only [push_cast, seval]; rfl); intro hm; rotate_left; intro hm) | ((with_reducible apply K_endS hm); (focus (simp only [resOf, resL, RV.get, push_cast, seval]; rfl)); (focus ((repeat' (first | rfl | (with_reducible first | apply f_optN | apply f_optS | apply f_some | apply f_tup | apply f_agg | apply f_ptr | apply f_fn | apply dv_slice | apply sv_d | apply f_cons | apply fold_nil | apply fold_cons | apply fold_app | apply f_rowI | apply f_rowY | apply f_rowS | apply f_rowB | apply f_rowL) | (with_reducible apply f_byte; decide))); done))))
noncomputable def m_strconv_FormatUint (x0 : Int) (x1 : Int) : Option ((List UInt8)) := (sims_F1_3_0 x0 x1).1
theorem spec_strconv_FormatUint (x0 : Int) (x1 : Int) : ∀ r, m_strconv_FormatUint x0 x1 = some r → PureSpec Tryz.prog 110 [.int .u64 x0, .int .i64 x1] (.str r) := (sims_F1_3_0 x0 x1).2

end Go.Proofs.YthpignffnnpboaaGreatDoor
