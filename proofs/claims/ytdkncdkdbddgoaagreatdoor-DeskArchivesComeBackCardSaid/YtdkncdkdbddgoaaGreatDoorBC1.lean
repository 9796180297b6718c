/-
  Texts of mine, one behind the other (SCShelf, SCLibT, SCShelfI, SCLibI, SCShelfR, SCLibR, SCShelfV, SCLibV, SCShelfW, SCLibW, SCLibF, SCF1, SCLibO, SCLibP, SCShelfBd, SCLibBd, SCG1, SCG2, SCRow, SCPL, SCPM, SCH1).
-/
import Derived.Ground.NamesProg
import Derived.Shelf.Strings.SlTrimAscii
import Derived.Shelf.Small.Strs
import Derived.Test.YtdkncdkdbddgoaaGreatDoorProg
import Derived.Test.YtdkncdkdbddgoaaGreatDoorSCEngY
import Derived.KernelRfl
import Derived.Shelf.Strconv.Itoa3
import Derived.Shelf.Strings.Repeat
import Derived.Shelf.Strings.SplitShaped
import Derived.Shelf.Strings.Shaped
import Derived.Shelf.Small.Wraps
import Derived.Shelf.Strconv.Atoi
import Derived.Test.YtdkncdkdbddgoaaGreatDoorSCEngZz
import Derived.Test.YtdkncdkdbddgoaaGreatDoorSCEngRk
import Derived.Test.YtdkncdkdbddgoaaGreatDoorSCEngX
import Derived.Shelf.Strings.BuilderF
import Derived.Shelf.Strings.Builder1
import Derived.Test.YtdkncdkdbddgoaaGreatDoorCards
import Derived.Test.YtdkncdkdbddgoaaGreatDoorTie
import Derived.Test.YtdkncdkdbddgoaaGreatDoorSCEngR
import Derived.Lib.ItoaLen
import Derived.Lib.Repeat
/-
  DERIVED: THE SHELF's CONTRACTS AT THIS DUMP, IN PLAIN WORDS (tools/lay-plain.mjs out of 'YtdkncdkdbddgoaaGreatDoorShelf.lean', which tools/lay-shelf.mjs wrote): THE SAME DECLARATIONS UNDER THE SAME NAMES: 'import', 'namespace', 'open', 'def', 'theorem' AND NOTHING ELSE: no command of the shelf's: FOR A HAND-IN. Each laying: the table of numbers ('.._ren') and one theorem, a field a fact of the dump's own or the kernel's comparison; each contract: ONE APPLICATION.
-/
namespace Go.Proofs
open Go.Shelf
def Tryz.lays160_ren : Go.Shelf.Ren := ⟨fun | 160 => 94 | 232 => 113 | 231 => 112 | 227 => 114 | 234 => 116 | 233 => 115 | 236 => 118 | 235 => 117 | 228 => 139 | 271 => 141 | 151 => 140 | 197 => 120 | 120 => 157 | 152 => 156 | 260 => 142 | 137 => 70 | 119 => 163 | 224 => 144 | 225 => 143 | 217 => 98 | 266 => 123 | n => n, fun | 9 => 9 | 4 => 4 | 3 => 3 | 5 => 5 | 117 => 147 | 116 => 146 | 0 => 0 | 124 => 150 | 21 => 21 | 105 => 152 | 46 => 140 | 119 => 185 | 139 => 188 | 138 => 187 | n => n, fun | 3 => 4 | 4 => 5 | n => n⟩
theorem Tryz.lays160 : Go.Proofs.Lays.n160 Tryz.prog Tryz.lays160_ren := {
  mixed := by kernel_rfl
  f119 := Tryz.func163.trans (congrArg some (by kernel_rfl))
  f120 := Tryz.func157.trans (congrArg some (by kernel_rfl))
  f137 := Tryz.func70.trans (congrArg some (by kernel_rfl))
  f151 := Tryz.func140.trans (congrArg some (by kernel_rfl))
  f152 := Tryz.func156.trans (congrArg some (by kernel_rfl))
  f160 := Tryz.func94.trans (congrArg some (by kernel_rfl))
  f197 := Tryz.func120.trans (congrArg some (by kernel_rfl))
  f217 := Tryz.func98.trans (congrArg some (by kernel_rfl))
  f224 := Tryz.func144.trans (congrArg some (by kernel_rfl))
  f225 := Tryz.func143.trans (congrArg some (by kernel_rfl))
  f227 := Tryz.func114.trans (congrArg some (by kernel_rfl))
  f228 := Tryz.func139.trans (congrArg some (by kernel_rfl))
  f231 := Tryz.func112.trans (congrArg some (by kernel_rfl))
  f232 := Tryz.func113.trans (congrArg some (by kernel_rfl))
  f233 := Tryz.func115.trans (congrArg some (by kernel_rfl))
  f234 := Tryz.func116.trans (congrArg some (by kernel_rfl))
  f235 := Tryz.func117.trans (congrArg some (by kernel_rfl))
  f236 := Tryz.func118.trans (congrArg some (by kernel_rfl))
  f260 := Tryz.func142.trans (congrArg some (by kernel_rfl))
  f266 := Tryz.func123.trans (congrArg some (by kernel_rfl))
  f271 := Tryz.func141.trans (congrArg some (by kernel_rfl))
  t0 := Tryz.underlying0
  a0 := Tryz.isAgg0
  z0 := Tryz.sizeOf0
  v0 := Tryz.zeroValue0
  t3 := Tryz.underlying3
  a3 := Tryz.isAgg3
  z3 := Tryz.sizeOf3
  v3 := Tryz.zeroValue3
  t4 := Tryz.underlying4
  a4 := Tryz.isAgg4
  z4 := Tryz.sizeOf4
  v4 := Tryz.zeroValue4
  t5 := Tryz.underlying5
  a5 := Tryz.isAgg5
  z5 := Tryz.sizeOf5
  v5 := Tryz.zeroValue5
  t9 := Tryz.underlying9
  a9 := Tryz.isAgg9
  z9 := Tryz.sizeOf9
  v9 := Tryz.zeroValue9
  t21 := Tryz.underlying21
  a21 := Tryz.isAgg21
  z21 := Tryz.sizeOf21
  v21 := Tryz.zeroValue21
  t46 := Tryz.underlying140
  a46 := Tryz.isAgg140
  z46 := Tryz.sizeOf140
  v46 := Tryz.zeroValue140
  t105 := Tryz.underlying152
  a105 := Tryz.isAgg152
  z105 := Tryz.sizeOf152
  v105 := Tryz.zeroValue152
  t116 := Tryz.underlying146
  a116 := Tryz.isAgg146
  z116 := Tryz.sizeOf146
  t117 := Tryz.underlying147
  a117 := Tryz.isAgg147
  z117 := Tryz.sizeOf147
  v117 := Tryz.zeroValue147
  t119 := Tryz.underlying185
  a119 := Tryz.isAgg185
  z119 := Tryz.sizeOf185
  t124 := Tryz.underlying150
  a124 := Tryz.isAgg150
  z124 := Tryz.sizeOf150
  v124 := Tryz.zeroValue150
  t138 := Tryz.underlying187
  a138 := Tryz.isAgg187
  z138 := Tryz.sizeOf187
  v138 := Tryz.zeroValue187
  t139 := Tryz.underlying188
  a139 := Tryz.isAgg188
  z139 := Tryz.sizeOf188
  v139 := Tryz.zeroValue188
  g3 := by kernel_rfl
  g4 := by kernel_rfl }
end Go.Proofs

/-
  strings.Trim at a set of ASCII bytes.
-/
namespace Go.Proofs.YtdkncdkdbddgoaaGreatDoor
set_option linter.unusedSimpArgs false
set_option linter.unusedVariables false
open Go.RowKit Go.Shelf

def m_strings_Trim (s cs : List UInt8) : Option (List UInt8) := if s.length ≤ 9223372036854775807 ∧ cs.length < 4294967281 ∧ cs.all (fun b => decide (b.toNat < 128)) = true then some (Lib.trimS s cs) else none
theorem spec_strings_Trim (s cs : List UInt8) : ∀ r, m_strings_Trim s cs = some r → PureSpec Tryz.prog 94 [.str s, .str cs] (.str r) := by
  intro r hr
  unfold m_strings_Trim at hr
  split at hr
  · rename_i h
    obtain ⟨h1, h2, h3⟩ := h
    cases hr
    refine ⟨by kernel_rfl, fun w M vs hM hv _ => ?_⟩
    simp only [RepL, Rep] at hv
    obtain ⟨u, us, rfl, rfl, u', us', rfl, rfl, rfl⟩ := hv
    have hcon := Any.strings_Trim_laid Tryz.lays160 (by kernel_rfl) ⟨s.toArray⟩ ⟨cs.toArray⟩ w (by simpa [ByteArray.size] using h1) (by simpa [ByteArray.size] using h2) (ascii_of_all (by simpa using h3))
    refine Calls.mono hcon ?_
    rintro e w' ⟨rfl, hB⟩
    exact ⟨_, rfl, by simp [Rep], hB⟩
  · cases hr
end Go.Proofs.YtdkncdkdbddgoaaGreatDoor

/-
  DERIVED: THE SHELF's CONTRACTS AT THIS DUMP, IN PLAIN WORDS (tools/lay-plain.mjs out of 'YtdkncdkdbddgoaaGreatDoorShelfI.lean', which tools/lay-shelf.mjs wrote): THE SAME DECLARATIONS UNDER THE SAME NAMES: 'import', 'namespace', 'open', 'def', 'theorem' AND NOTHING ELSE: no command of the shelf's: FOR A HAND-IN. Each laying: the table of numbers ('.._ren') and one theorem, a field a fact of the dump's own or the kernel's comparison; each contract: ONE APPLICATION.
-/
namespace Go.Proofs
open Go.Shelf
def Tryz.lays171_ren : Go.Shelf.Ren := ⟨fun | 171 => 57 | 243 => 85 | 246 => 104 | 283 => 131 | 284 => 132 | 285 => 133 | 286 => 134 | 129 => 150 | 317 => 149 | 318 => 151 | 319 => 152 | 320 => 153 | 337 => 161 | 338 => 162 | n => n, fun | 3 => 3 | 9 => 9 | 2 => 2 | 4 => 4 | 171 => 160 | 0 => 0 | 53 => 135 | 37 => 66 | 5 => 5 | 173 => 163 | 212 => 180 | 51 => 165 | 20 => 20 | 213 => 181 | 46 => 140 | 232 => 196 | 233 => 197 | n => n, fun | 17 => 3 | 18 => 6 | 19 => 7 | n => n⟩
theorem Tryz.lays171 : Go.Proofs.LaysM.n171 Tryz.prog Tryz.lays171_ren := {
  mixed := by kernel_rfl
  f129 := Tryz.func150.trans (congrArg some (by kernel_rfl))
  f171 := Tryz.func57.trans (congrArg some (by kernel_rfl))
  f243 := Tryz.func85.trans (congrArg some (by kernel_rfl))
  f246 := Tryz.func104.trans (congrArg some (by kernel_rfl))
  f283 := Tryz.func131.trans (congrArg some (by kernel_rfl))
  f284 := Tryz.func132.trans (congrArg some (by kernel_rfl))
  f285 := Tryz.func133.trans (congrArg some (by kernel_rfl))
  f286 := Tryz.func134.trans (congrArg some (by kernel_rfl))
  f317 := Tryz.func149.trans (congrArg some (by kernel_rfl))
  f318 := Tryz.func151.trans (congrArg some (by kernel_rfl))
  f319 := Tryz.func152.trans (congrArg some (by kernel_rfl))
  f320 := Tryz.func153.trans (congrArg some (by kernel_rfl))
  f337 := Tryz.func161.trans (congrArg some (by kernel_rfl))
  f338 := Tryz.func162.trans (congrArg some (by kernel_rfl))
  t0 := Tryz.underlying0
  a0 := Tryz.isAgg0
  z0 := Tryz.sizeOf0
  v0 := Tryz.zeroValue0
  t2 := Tryz.underlying2
  a2 := Tryz.isAgg2
  z2 := Tryz.sizeOf2
  v2 := Tryz.zeroValue2
  t3 := Tryz.underlying3
  a3 := Tryz.isAgg3
  z3 := Tryz.sizeOf3
  v3 := Tryz.zeroValue3
  t4 := Tryz.underlying4
  a4 := Tryz.isAgg4
  z4 := Tryz.sizeOf4
  v4 := Tryz.zeroValue4
  t5 := Tryz.underlying5
  a5 := Tryz.isAgg5
  z5 := Tryz.sizeOf5
  v5 := Tryz.zeroValue5
  t9 := Tryz.underlying9
  a9 := Tryz.isAgg9
  z9 := Tryz.sizeOf9
  v9 := Tryz.zeroValue9
  t20 := Tryz.underlying20
  a20 := Tryz.isAgg20
  z20 := Tryz.sizeOf20
  v20 := Tryz.zeroValue20
  t37 := Tryz.underlying66
  a37 := Tryz.isAgg66
  z37 := Tryz.sizeOf66
  v37 := Tryz.zeroValue66
  t46 := Tryz.underlying140
  a46 := Tryz.isAgg140
  z46 := Tryz.sizeOf140
  v46 := Tryz.zeroValue140
  t51 := Tryz.underlying165
  a51 := Tryz.isAgg165
  z51 := Tryz.sizeOf165
  v51 := Tryz.zeroValue165
  t53 := Tryz.underlying135
  a53 := Tryz.isAgg135
  z53 := Tryz.sizeOf135
  v53 := Tryz.zeroValue135
  t171 := Tryz.underlying160
  a171 := Tryz.isAgg160
  z171 := Tryz.sizeOf160
  v171 := Tryz.zeroValue160
  t173 := Tryz.underlying163
  a173 := Tryz.isAgg163
  z173 := Tryz.sizeOf163
  v173 := Tryz.zeroValue163
  t212 := Tryz.underlying180
  a212 := Tryz.isAgg180
  z212 := Tryz.sizeOf180
  v212 := Tryz.zeroValue180
  t213 := Tryz.underlying181
  a213 := Tryz.isAgg181
  z213 := Tryz.sizeOf181
  t232 := Tryz.underlying196
  a232 := Tryz.isAgg196
  z232 := Tryz.sizeOf196
  v232 := Tryz.zeroValue196
  t233 := Tryz.underlying197
  a233 := Tryz.isAgg197
  z233 := Tryz.sizeOf197
  v233 := Tryz.zeroValue197
  g17 := by kernel_rfl
  g18 := by kernel_rfl
  g19 := by kernel_rfl
  i0 := by kernel_rfl
  i2 := by kernel_rfl
  i3 := by kernel_rfl
  i4 := by kernel_rfl
  i5 := by kernel_rfl
  i9 := by kernel_rfl
  i20 := by kernel_rfl
  i37 := by kernel_rfl
  i46 := by kernel_rfl
  i51 := by kernel_rfl
  i53 := by kernel_rfl
  i171 := by kernel_rfl
  i173 := by kernel_rfl
  i212 := by kernel_rfl
  i232 := by kernel_rfl
  i233 := by kernel_rfl
  m17 := by kernel_rfl
  m18 := by kernel_rfl
  m19 := by kernel_rfl }
end Go.Proofs

/-
  strconv.Itoa, over the table of the powers of ten.
-/
namespace Go.Proofs.YtdkncdkdbddgoaaGreatDoor
set_option linter.unusedSimpArgs false
set_option linter.unusedVariables false
open Go.RowKit Go.Shelf

theorem below_grow (w : World) (k : Nat) (os : Array Obj) : Below w.heap.size w (Go.Sort.grow (w.drewN k) os) := by
  refine ⟨rfl, rfl, rfl, ?_, fun i hi => ?_⟩
  · show w.heap.size ≤ (w.heap ++ os).size
    rw [Array.size_append]; omega
  · show (w.heap ++ os)[i]? = w.heap[i]?
    rw [Array.getElem?_append_left hi]
theorem tab_pow10 {w : World} (h : Good w) : Lib.TabIs Tryz.prog w "internal/strconv.uint64pow10" .u64 Lib.pow10Tab := by
  obtain ⟨u, f, hc⟩ := h (3, .u64, Lib.pow10Tab) (by unfold tabs; exact List.mem_of_getElem? (i := 0) rfl) |>.at (by unfold Lib.pow10Tab; simp)
  unfold Lib.TabIs World.var?
  rw [show Tryz.prog.globalNamed "internal/strconv.uint64pow10" = some 3 by kernel_rfl]
  simp only [Option.bind_some]
  rw [hc]
def m_strconv_Itoa (n : Int) : Option (List UInt8) := if -9223372036854775808 ≤ n ∧ n ≤ 9223372036854775807 then some (Lib.itoa n) else none
theorem spec_strconv_Itoa (n : Int) : ∀ r, m_strconv_Itoa n = some r → PureSpec Tryz.prog 57 [.int .i64 n] (.str r) := by
  intro r hr
  unfold m_strconv_Itoa at hr
  split at hr
  · rename_i h
    cases hr
    refine ⟨by kernel_rfl, fun w M vs hM hv hgood => ?_⟩
    simp only [RepL, Rep] at hv
    obtain ⟨u, us, rfl, rfl, rfl⟩ := hv
    refine Calls.mono (Any.strconv_Itoa Tryz.lays171 n h.1 h.2 w (tab_pow10 hgood)) ?_
    rintro e w' ⟨rfl, k, os, rfl⟩
    exact ⟨_, rfl, by simp [Rep], below_grow w k os⟩
  · cases hr
end Go.Proofs.YtdkncdkdbddgoaaGreatDoor

/-
  DERIVED: THE SHELF's CONTRACTS AT THIS DUMP, IN PLAIN WORDS (tools/lay-plain.mjs out of 'YtdkncdkdbddgoaaGreatDoorShelfR.lean', which tools/lay-shelf.mjs wrote): THE SAME DECLARATIONS UNDER THE SAME NAMES: 'import', 'namespace', 'open', 'def', 'theorem' AND NOTHING ELSE: no command of the shelf's: FOR A HAND-IN. Each laying: the table of numbers ('.._ren') and one theorem, a field a fact of the dump's own or the kernel's comparison; each contract: ONE APPLICATION.
-/
namespace Go.Proofs
open Go.Shelf
def Tryz.lays105_ren : Go.Shelf.Ren := ⟨fun | 105 => 91 | 212 => 108 | 99 => 109 | 165 => 110 | 166 => 31 | 170 => 33 | 169 => 34 | 263 => 135 | 264 => 136 | 206 => 107 | 240 => 56 | 241 => 137 | 276 => 84 | 277 => 154 | n => n, fun | 9 => 9 | 3 => 3 | 4 => 4 | 20 => 20 | 0 => 0 | 46 => 140 | 109 => 141 | 5 => 5 | 72 => 68 | 76 => 71 | 51 => 165 | 146 => 166 | 53 => 135 | 148 => 168 | 70 => 65 | 37 => 66 | 75 => 70 | 127 => 105 | 164 => 120 | 80 => 75 | n => n, fun | n => n⟩
theorem Tryz.lays105 : Go.Proofs.Lays.n105 Tryz.prog Tryz.lays105_ren := {
  mixed := by kernel_rfl
  f99 := Tryz.func109.trans (congrArg some (by kernel_rfl))
  f105 := Tryz.func91.trans (congrArg some (by kernel_rfl))
  f165 := Tryz.func110.trans (congrArg some (by kernel_rfl))
  f166 := Tryz.func31.trans (congrArg some (by kernel_rfl))
  f169 := Tryz.func34.trans (congrArg some (by kernel_rfl))
  f170 := Tryz.func33.trans (congrArg some (by kernel_rfl))
  f206 := Tryz.func107.trans (congrArg some (by kernel_rfl))
  f212 := Tryz.func108.trans (congrArg some (by kernel_rfl))
  f240 := Tryz.func56.trans (congrArg some (by kernel_rfl))
  f241 := Tryz.func137.trans (congrArg some (by kernel_rfl))
  f263 := Tryz.func135.trans (congrArg some (by kernel_rfl))
  f264 := Tryz.func136.trans (congrArg some (by kernel_rfl))
  f276 := Tryz.func84.trans (congrArg some (by kernel_rfl))
  f277 := Tryz.func154.trans (congrArg some (by kernel_rfl))
  t0 := Tryz.underlying0
  a0 := Tryz.isAgg0
  z0 := Tryz.sizeOf0
  v0 := Tryz.zeroValue0
  t3 := Tryz.underlying3
  a3 := Tryz.isAgg3
  z3 := Tryz.sizeOf3
  v3 := Tryz.zeroValue3
  t4 := Tryz.underlying4
  a4 := Tryz.isAgg4
  z4 := Tryz.sizeOf4
  v4 := Tryz.zeroValue4
  t5 := Tryz.underlying5
  a5 := Tryz.isAgg5
  z5 := Tryz.sizeOf5
  v5 := Tryz.zeroValue5
  t9 := Tryz.underlying9
  a9 := Tryz.isAgg9
  z9 := Tryz.sizeOf9
  v9 := Tryz.zeroValue9
  t20 := Tryz.underlying20
  a20 := Tryz.isAgg20
  z20 := Tryz.sizeOf20
  v20 := Tryz.zeroValue20
  t37 := Tryz.underlying66
  a37 := Tryz.isAgg66
  z37 := Tryz.sizeOf66
  v37 := Tryz.zeroValue66
  t46 := Tryz.underlying140
  a46 := Tryz.isAgg140
  z46 := Tryz.sizeOf140
  v46 := Tryz.zeroValue140
  t51 := Tryz.underlying165
  a51 := Tryz.isAgg165
  z51 := Tryz.sizeOf165
  v51 := Tryz.zeroValue165
  t53 := Tryz.underlying135
  a53 := Tryz.isAgg135
  z53 := Tryz.sizeOf135
  v53 := Tryz.zeroValue135
  t70 := Tryz.underlying65
  a70 := Tryz.isAgg65
  z70 := Tryz.sizeOf65
  v70 := Tryz.zeroValue65
  t72 := Tryz.underlying68
  a72 := Tryz.isAgg68
  z72 := Tryz.sizeOf68
  v72 := Tryz.zeroValue68
  t75 := Tryz.underlying70
  a75 := Tryz.isAgg70
  z75 := Tryz.sizeOf70
  v75 := Tryz.zeroValue70
  t76 := Tryz.underlying71
  a76 := Tryz.isAgg71
  z76 := Tryz.sizeOf71
  v76 := Tryz.zeroValue71
  t109 := Tryz.underlying141
  a109 := Tryz.isAgg141
  z109 := Tryz.sizeOf141
  v109 := Tryz.zeroValue141
  t127 := Tryz.underlying105
  a127 := Tryz.isAgg105
  z127 := Tryz.sizeOf105
  v127 := Tryz.zeroValue105
  t146 := Tryz.underlying166
  a146 := Tryz.isAgg166
  z146 := Tryz.sizeOf166
  v146 := Tryz.zeroValue166
  t148 := Tryz.underlying168
  a148 := Tryz.isAgg168
  z148 := Tryz.sizeOf168
  v148 := Tryz.zeroValue168
  t164 := Tryz.underlying120
  a164 := Tryz.isAgg120
  z164 := Tryz.sizeOf120
  v164 := Tryz.zeroValue120 }
end Go.Proofs

/-
  strings.Repeat.
-/
namespace Go.Proofs.YtdkncdkdbddgoaaGreatDoor
set_option linter.unusedSimpArgs false
set_option linter.unusedVariables false
open Go.RowKit Go.Shelf

set_option maxRecDepth 100000 in
theorem builderX : Go.Proofs.Builder.Extra Tryz.prog Tryz.lays105_ren where
  sizeBuilder := by kernel_rfl
  liesBuilder := by kernel_rfl
  t5 := Tryz.underlying5
  a5 := Tryz.isAgg5
  z5 := Tryz.sizeOf5
  v5 := Tryz.zeroValue5
  infoByte := by kernel_rfl
  cellsByte := by kernel_rfl
  sizeByte := by kernel_rfl
  neB5 := by decide
def m_strings_Repeat (s : List UInt8) (c : Int) : Option (List UInt8) := if 0 ≤ c ∧ c ≤ 1000000 ∧ s.length ≤ 1000000 then some (Lib.repeatL s c.toNat) else none
theorem spec_strings_Repeat (s : List UInt8) (c : Int) : ∀ r, m_strings_Repeat s c = some r → PureSpec Tryz.prog 91 [.str s, .int .i64 c] (.str r) := by
  intro r hr
  unfold m_strings_Repeat at hr
  split at hr
  · rename_i h
    cases hr
    obtain ⟨h0, h1, h2⟩ := h
    obtain ⟨k, rfl⟩ : ∃ k : Nat, c = (k : Int) := ⟨c.toNat, by omega⟩
    refine ⟨by kernel_rfl, fun w M vs hM hv hgood => ?_⟩
    simp only [RepL, Rep] at hv
    obtain ⟨u, us, rfl, rfl, u', us', rfl, rfl, rfl⟩ := hv
    have hs : (⟨s.toArray⟩ : ByteArray).size = s.length := by simp [ByteArray.size]
    have hk : k ≤ 1000000 := by omega
    refine Calls.mono (Any.strings_Repeat Tryz.lays105 builderX ⟨s.toArray⟩ k w (by omega) (by rw [hs]; exact Nat.le_trans (Nat.mul_le_mul h2 hk) (by decide))) ?_
    rintro e w' ⟨rfl, hB⟩
    exact ⟨_, rfl, by simp [Rep], hB⟩
  · cases hr
end Go.Proofs.YtdkncdkdbddgoaaGreatDoor

/-
  DERIVED: THE SHELF's CONTRACTS AT THIS DUMP, IN PLAIN WORDS (tools/lay-plain.mjs out of 'YtdkncdkdbddgoaaGreatDoorShelfV.lean', which tools/lay-shelf.mjs wrote): THE SAME DECLARATIONS UNDER THE SAME NAMES: 'import', 'namespace', 'open', 'def', 'theorem' AND NOTHING ELSE: no command of the shelf's: FOR A HAND-IN. Each laying: the table of numbers ('.._ren') and one theorem, a field a fact of the dump's own or the kernel's comparison; each contract: ONE APPLICATION.
-/
namespace Go.Proofs
open Go.Shelf
def Tryz.lays146_ren : Go.Shelf.Ren := ⟨fun | 146 => 41 | 221 => 69 | 268 => 95 | 138 => 96 | 143 => 97 | 195 => 119 | 197 => 120 | 218 => 121 | 219 => 122 | 260 => 142 | 217 => 98 | 225 => 143 | 224 => 144 | 267 => 145 | 266 => 123 | 314 => 158 | n => n, fun | 9 => 9 | 31 => 23 | 3 => 3 | 4 => 4 | 0 => 0 | 105 => 152 | 21 => 21 | 5 => 5 | 46 => 140 | 119 => 185 | 139 => 188 | 138 => 187 | 146 => 166 | 51 => 165 | n => n, fun | 1 => 0 | 3 => 4 | 4 => 5 | n => n⟩
theorem Tryz.lays146 : Go.Proofs.LaysM.n146 Tryz.prog Tryz.lays146_ren := {
  mixed := by kernel_rfl
  f138 := Tryz.func96.trans (congrArg some (by kernel_rfl))
  f143 := Tryz.func97.trans (congrArg some (by kernel_rfl))
  f146 := Tryz.func41.trans (congrArg some (by kernel_rfl))
  f195 := Tryz.func119.trans (congrArg some (by kernel_rfl))
  f197 := Tryz.func120.trans (congrArg some (by kernel_rfl))
  f217 := Tryz.func98.trans (congrArg some (by kernel_rfl))
  f218 := Tryz.func121.trans (congrArg some (by kernel_rfl))
  f219 := Tryz.func122.trans (congrArg some (by kernel_rfl))
  f221 := Tryz.func69.trans (congrArg some (by kernel_rfl))
  f224 := Tryz.func144.trans (congrArg some (by kernel_rfl))
  f225 := Tryz.func143.trans (congrArg some (by kernel_rfl))
  f260 := Tryz.func142.trans (congrArg some (by kernel_rfl))
  f266 := Tryz.func123.trans (congrArg some (by kernel_rfl))
  f267 := Tryz.func145.trans (congrArg some (by kernel_rfl))
  f268 := Tryz.func95.trans (congrArg some (by kernel_rfl))
  f314 := Tryz.func158.trans (congrArg some (by kernel_rfl))
  t0 := Tryz.underlying0
  a0 := Tryz.isAgg0
  z0 := Tryz.sizeOf0
  v0 := Tryz.zeroValue0
  t3 := Tryz.underlying3
  a3 := Tryz.isAgg3
  z3 := Tryz.sizeOf3
  v3 := Tryz.zeroValue3
  t4 := Tryz.underlying4
  a4 := Tryz.isAgg4
  z4 := Tryz.sizeOf4
  v4 := Tryz.zeroValue4
  t5 := Tryz.underlying5
  a5 := Tryz.isAgg5
  z5 := Tryz.sizeOf5
  v5 := Tryz.zeroValue5
  t9 := Tryz.underlying9
  a9 := Tryz.isAgg9
  z9 := Tryz.sizeOf9
  v9 := Tryz.zeroValue9
  t21 := Tryz.underlying21
  a21 := Tryz.isAgg21
  z21 := Tryz.sizeOf21
  v21 := Tryz.zeroValue21
  t31 := Tryz.underlying23
  a31 := Tryz.isAgg23
  z31 := Tryz.sizeOf23
  v31 := Tryz.zeroValue23
  t46 := Tryz.underlying140
  a46 := Tryz.isAgg140
  z46 := Tryz.sizeOf140
  v46 := Tryz.zeroValue140
  t51 := Tryz.underlying165
  a51 := Tryz.isAgg165
  z51 := Tryz.sizeOf165
  v51 := Tryz.zeroValue165
  t105 := Tryz.underlying152
  a105 := Tryz.isAgg152
  z105 := Tryz.sizeOf152
  v105 := Tryz.zeroValue152
  t119 := Tryz.underlying185
  a119 := Tryz.isAgg185
  z119 := Tryz.sizeOf185
  t138 := Tryz.underlying187
  a138 := Tryz.isAgg187
  z138 := Tryz.sizeOf187
  v138 := Tryz.zeroValue187
  t139 := Tryz.underlying188
  a139 := Tryz.isAgg188
  z139 := Tryz.sizeOf188
  v139 := Tryz.zeroValue188
  t146 := Tryz.underlying166
  a146 := Tryz.isAgg166
  z146 := Tryz.sizeOf166
  v146 := Tryz.zeroValue166
  g1 := by kernel_rfl
  g3 := by kernel_rfl
  g4 := by kernel_rfl
  i0 := by kernel_rfl
  i3 := by kernel_rfl
  i4 := by kernel_rfl
  i5 := by kernel_rfl
  i9 := by kernel_rfl
  i21 := by kernel_rfl
  i31 := by kernel_rfl
  i46 := by kernel_rfl
  i51 := by kernel_rfl
  i105 := by kernel_rfl
  i138 := by kernel_rfl
  i139 := by kernel_rfl
  i146 := by kernel_rfl
  m1 := by kernel_rfl
  s1_3 := fun w h => Go.Proofs.cell_of_shapedOpen_int (zero := #[.int .i64 0]) (t := 3) h (of_decide_eq_true (by kernel_rfl)) (by kernel_rfl) rfl (by kernel_rfl) (by kernel_rfl) Tryz.underlying3
  m3 := by kernel_rfl
  m4 := by kernel_rfl }
def Tryz.lays147_ren : Go.Shelf.Ren := ⟨fun | 147 => 87 | 221 => 69 | 268 => 95 | 138 => 96 | 143 => 97 | 195 => 119 | 197 => 120 | 218 => 121 | 219 => 122 | 260 => 142 | 217 => 98 | 225 => 143 | 224 => 144 | 267 => 145 | 266 => 123 | 314 => 158 | n => n, fun | 9 => 9 | 3 => 3 | 31 => 23 | 4 => 4 | 0 => 0 | 105 => 152 | 21 => 21 | 5 => 5 | 46 => 140 | 119 => 185 | 139 => 188 | 138 => 187 | 146 => 166 | 51 => 165 | n => n, fun | 1 => 0 | 3 => 4 | 4 => 5 | n => n⟩
theorem Tryz.lays147 : Go.Proofs.LaysM.n147 Tryz.prog Tryz.lays147_ren := {
  mixed := by kernel_rfl
  f138 := Tryz.func96.trans (congrArg some (by kernel_rfl))
  f143 := Tryz.func97.trans (congrArg some (by kernel_rfl))
  f147 := Tryz.func87.trans (congrArg some (by kernel_rfl))
  f195 := Tryz.func119.trans (congrArg some (by kernel_rfl))
  f197 := Tryz.func120.trans (congrArg some (by kernel_rfl))
  f217 := Tryz.func98.trans (congrArg some (by kernel_rfl))
  f218 := Tryz.func121.trans (congrArg some (by kernel_rfl))
  f219 := Tryz.func122.trans (congrArg some (by kernel_rfl))
  f221 := Tryz.func69.trans (congrArg some (by kernel_rfl))
  f224 := Tryz.func144.trans (congrArg some (by kernel_rfl))
  f225 := Tryz.func143.trans (congrArg some (by kernel_rfl))
  f260 := Tryz.func142.trans (congrArg some (by kernel_rfl))
  f266 := Tryz.func123.trans (congrArg some (by kernel_rfl))
  f267 := Tryz.func145.trans (congrArg some (by kernel_rfl))
  f268 := Tryz.func95.trans (congrArg some (by kernel_rfl))
  f314 := Tryz.func158.trans (congrArg some (by kernel_rfl))
  t0 := Tryz.underlying0
  a0 := Tryz.isAgg0
  z0 := Tryz.sizeOf0
  v0 := Tryz.zeroValue0
  t3 := Tryz.underlying3
  a3 := Tryz.isAgg3
  z3 := Tryz.sizeOf3
  v3 := Tryz.zeroValue3
  t4 := Tryz.underlying4
  a4 := Tryz.isAgg4
  z4 := Tryz.sizeOf4
  v4 := Tryz.zeroValue4
  t5 := Tryz.underlying5
  a5 := Tryz.isAgg5
  z5 := Tryz.sizeOf5
  v5 := Tryz.zeroValue5
  t9 := Tryz.underlying9
  a9 := Tryz.isAgg9
  z9 := Tryz.sizeOf9
  v9 := Tryz.zeroValue9
  t21 := Tryz.underlying21
  a21 := Tryz.isAgg21
  z21 := Tryz.sizeOf21
  v21 := Tryz.zeroValue21
  t31 := Tryz.underlying23
  a31 := Tryz.isAgg23
  z31 := Tryz.sizeOf23
  v31 := Tryz.zeroValue23
  t46 := Tryz.underlying140
  a46 := Tryz.isAgg140
  z46 := Tryz.sizeOf140
  v46 := Tryz.zeroValue140
  t51 := Tryz.underlying165
  a51 := Tryz.isAgg165
  z51 := Tryz.sizeOf165
  v51 := Tryz.zeroValue165
  t105 := Tryz.underlying152
  a105 := Tryz.isAgg152
  z105 := Tryz.sizeOf152
  v105 := Tryz.zeroValue152
  t119 := Tryz.underlying185
  a119 := Tryz.isAgg185
  z119 := Tryz.sizeOf185
  t138 := Tryz.underlying187
  a138 := Tryz.isAgg187
  z138 := Tryz.sizeOf187
  v138 := Tryz.zeroValue187
  t139 := Tryz.underlying188
  a139 := Tryz.isAgg188
  z139 := Tryz.sizeOf188
  v139 := Tryz.zeroValue188
  t146 := Tryz.underlying166
  a146 := Tryz.isAgg166
  z146 := Tryz.sizeOf166
  v146 := Tryz.zeroValue166
  g1 := by kernel_rfl
  g3 := by kernel_rfl
  g4 := by kernel_rfl
  i0 := by kernel_rfl
  i3 := by kernel_rfl
  i4 := by kernel_rfl
  i5 := by kernel_rfl
  i9 := by kernel_rfl
  i21 := by kernel_rfl
  i31 := by kernel_rfl
  i46 := by kernel_rfl
  i51 := by kernel_rfl
  i105 := by kernel_rfl
  i138 := by kernel_rfl
  i139 := by kernel_rfl
  i146 := by kernel_rfl
  m1 := by kernel_rfl
  s1_3 := fun w h => Go.Proofs.cell_of_shapedOpen_int (zero := #[.int .i64 0]) (t := 3) h (of_decide_eq_true (by kernel_rfl)) (by kernel_rfl) rfl (by kernel_rfl) (by kernel_rfl) Tryz.underlying3
  m3 := by kernel_rfl
  m4 := by kernel_rfl }
def Tryz.lays104_ren : Go.Shelf.Ren := ⟨fun | 104 => 58 | 211 => 86 | 207 => 105 | n => n, fun | 9 => 9 | 4 => 4 | 24 => 97 | 3 => 3 | n => n, fun | n => n⟩
theorem Tryz.lays104 : Go.Proofs.Lays.n104 Tryz.prog Tryz.lays104_ren := {
  mixed := by kernel_rfl
  f104 := Tryz.func58.trans (congrArg some (by kernel_rfl))
  f207 := Tryz.func105.trans (congrArg some (by kernel_rfl))
  f211 := Tryz.func86.trans (congrArg some (by kernel_rfl))
  t3 := Tryz.underlying3
  a3 := Tryz.isAgg3
  z3 := Tryz.sizeOf3
  v3 := Tryz.zeroValue3
  t4 := Tryz.underlying4
  a4 := Tryz.isAgg4
  z4 := Tryz.sizeOf4
  v4 := Tryz.zeroValue4
  t9 := Tryz.underlying9
  a9 := Tryz.isAgg9
  z9 := Tryz.sizeOf9
  v9 := Tryz.zeroValue9
  t24 := Tryz.underlying97
  a24 := Tryz.isAgg97
  z24 := Tryz.sizeOf97
  v24 := Tryz.zeroValue97 }
def Tryz.lays172_ren : Go.Shelf.Ren := ⟨fun | 172 => 73 | 244 => 99 | 245 => 100 | 247 => 124 | 279 => 125 | 280 => 126 | 281 => 127 | 282 => 128 | 287 => 146 | 316 => 147 | 171 => 57 | 205 => 148 | 321 => 159 | 322 => 160 | 243 => 85 | 246 => 104 | 283 => 131 | 284 => 132 | 285 => 133 | 286 => 134 | 129 => 150 | 317 => 149 | 318 => 151 | 319 => 152 | 320 => 153 | 337 => 161 | 338 => 162 | n => n, fun | 9 => 9 | 3 => 3 | 75 => 70 | 76 => 71 | 4 => 4 | 5 => 5 | 167 => 154 | 37 => 66 | 0 => 0 | 85 => 155 | 2 => 2 | 168 => 157 | 53 => 135 | 175 => 173 | 46 => 140 | 210 => 177 | 127 => 105 | 145 => 193 | 143 => 191 | 21 => 21 | 171 => 160 | 173 => 163 | 212 => 180 | 51 => 165 | 20 => 20 | 213 => 181 | 232 => 196 | 233 => 197 | 80 => 75 | n => n, fun | 15 => 1 | 16 => 2 | 17 => 3 | 18 => 6 | 19 => 7 | n => n⟩
theorem Tryz.lays172 : Go.Proofs.Lays.n172 Tryz.prog Tryz.lays172_ren := {
  mixed := by kernel_rfl
  f129 := Tryz.func150.trans (congrArg some (by kernel_rfl))
  f171 := Tryz.func57.trans (congrArg some (by kernel_rfl))
  f172 := Tryz.func73.trans (congrArg some (by kernel_rfl))
  f205 := Tryz.func148.trans (congrArg some (by kernel_rfl))
  f243 := Tryz.func85.trans (congrArg some (by kernel_rfl))
  f244 := Tryz.func99.trans (congrArg some (by kernel_rfl))
  f245 := Tryz.func100.trans (congrArg some (by kernel_rfl))
  f246 := Tryz.func104.trans (congrArg some (by kernel_rfl))
  f247 := Tryz.func124.trans (congrArg some (by kernel_rfl))
  f279 := Tryz.func125.trans (congrArg some (by kernel_rfl))
  f280 := Tryz.func126.trans (congrArg some (by kernel_rfl))
  f281 := Tryz.func127.trans (congrArg some (by kernel_rfl))
  f282 := Tryz.func128.trans (congrArg some (by kernel_rfl))
  f283 := Tryz.func131.trans (congrArg some (by kernel_rfl))
  f284 := Tryz.func132.trans (congrArg some (by kernel_rfl))
  f285 := Tryz.func133.trans (congrArg some (by kernel_rfl))
  f286 := Tryz.func134.trans (congrArg some (by kernel_rfl))
  f287 := Tryz.func146.trans (congrArg some (by kernel_rfl))
  f316 := Tryz.func147.trans (congrArg some (by kernel_rfl))
  f317 := Tryz.func149.trans (congrArg some (by kernel_rfl))
  f318 := Tryz.func151.trans (congrArg some (by kernel_rfl))
  f319 := Tryz.func152.trans (congrArg some (by kernel_rfl))
  f320 := Tryz.func153.trans (congrArg some (by kernel_rfl))
  f321 := Tryz.func159.trans (congrArg some (by kernel_rfl))
  f322 := Tryz.func160.trans (congrArg some (by kernel_rfl))
  f337 := Tryz.func161.trans (congrArg some (by kernel_rfl))
  f338 := Tryz.func162.trans (congrArg some (by kernel_rfl))
  t0 := Tryz.underlying0
  a0 := Tryz.isAgg0
  z0 := Tryz.sizeOf0
  v0 := Tryz.zeroValue0
  t2 := Tryz.underlying2
  a2 := Tryz.isAgg2
  z2 := Tryz.sizeOf2
  v2 := Tryz.zeroValue2
  t3 := Tryz.underlying3
  a3 := Tryz.isAgg3
  z3 := Tryz.sizeOf3
  v3 := Tryz.zeroValue3
  t4 := Tryz.underlying4
  a4 := Tryz.isAgg4
  z4 := Tryz.sizeOf4
  v4 := Tryz.zeroValue4
  t5 := Tryz.underlying5
  a5 := Tryz.isAgg5
  z5 := Tryz.sizeOf5
  v5 := Tryz.zeroValue5
  t9 := Tryz.underlying9
  a9 := Tryz.isAgg9
  z9 := Tryz.sizeOf9
  v9 := Tryz.zeroValue9
  t20 := Tryz.underlying20
  a20 := Tryz.isAgg20
  z20 := Tryz.sizeOf20
  v20 := Tryz.zeroValue20
  t21 := Tryz.underlying21
  a21 := Tryz.isAgg21
  z21 := Tryz.sizeOf21
  v21 := Tryz.zeroValue21
  t37 := Tryz.underlying66
  a37 := Tryz.isAgg66
  z37 := Tryz.sizeOf66
  v37 := Tryz.zeroValue66
  t46 := Tryz.underlying140
  a46 := Tryz.isAgg140
  z46 := Tryz.sizeOf140
  v46 := Tryz.zeroValue140
  t51 := Tryz.underlying165
  a51 := Tryz.isAgg165
  z51 := Tryz.sizeOf165
  v51 := Tryz.zeroValue165
  t53 := Tryz.underlying135
  a53 := Tryz.isAgg135
  z53 := Tryz.sizeOf135
  v53 := Tryz.zeroValue135
  t75 := Tryz.underlying70
  a75 := Tryz.isAgg70
  z75 := Tryz.sizeOf70
  v75 := Tryz.zeroValue70
  t76 := Tryz.underlying71
  a76 := Tryz.isAgg71
  z76 := Tryz.sizeOf71
  v76 := Tryz.zeroValue71
  t85 := Tryz.underlying155
  a85 := Tryz.isAgg155
  z85 := Tryz.sizeOf155
  v85 := Tryz.zeroValue155
  t127 := Tryz.underlying105
  a127 := Tryz.isAgg105
  z127 := Tryz.sizeOf105
  v127 := Tryz.zeroValue105
  t143 := Tryz.underlying191
  a143 := Tryz.isAgg191
  z143 := Tryz.sizeOf191
  v143 := Tryz.zeroValue191
  t145 := Tryz.underlying193
  a145 := Tryz.isAgg193
  z145 := Tryz.sizeOf193
  v145 := Tryz.zeroValue193
  t167 := Tryz.underlying154
  a167 := Tryz.isAgg154
  z167 := Tryz.sizeOf154
  v167 := Tryz.zeroValue154
  t168 := Tryz.underlying157
  a168 := Tryz.isAgg157
  z168 := Tryz.sizeOf157
  v168 := Tryz.zeroValue157
  t171 := Tryz.underlying160
  a171 := Tryz.isAgg160
  z171 := Tryz.sizeOf160
  v171 := Tryz.zeroValue160
  t173 := Tryz.underlying163
  a173 := Tryz.isAgg163
  z173 := Tryz.sizeOf163
  v173 := Tryz.zeroValue163
  t175 := Tryz.underlying173
  a175 := Tryz.isAgg173
  z175 := Tryz.sizeOf173
  v175 := Tryz.zeroValue173
  t210 := Tryz.underlying177
  a210 := Tryz.isAgg177
  z210 := Tryz.sizeOf177
  v210 := Tryz.zeroValue177
  t212 := Tryz.underlying180
  a212 := Tryz.isAgg180
  z212 := Tryz.sizeOf180
  v212 := Tryz.zeroValue180
  t213 := Tryz.underlying181
  a213 := Tryz.isAgg181
  z213 := Tryz.sizeOf181
  t232 := Tryz.underlying196
  a232 := Tryz.isAgg196
  z232 := Tryz.sizeOf196
  v232 := Tryz.zeroValue196
  t233 := Tryz.underlying197
  a233 := Tryz.isAgg197
  z233 := Tryz.sizeOf197
  v233 := Tryz.zeroValue197
  g15 := by kernel_rfl
  g16 := by kernel_rfl
  g17 := by kernel_rfl
  g18 := by kernel_rfl
  g19 := by kernel_rfl }
end Go.Proofs

/-
  strings.Split, SplitN, Cut (over the one number of the library that no row lists), CutSuffix, strconv.Atoi at numerals.
-/
namespace Go.Proofs.YtdkncdkdbddgoaaGreatDoor
set_option linter.unusedSimpArgs false
set_option linter.unusedVariables false
open Go.RowKit Go.Shelf

theorem maxLen_at {w : World} (h : Good w) : ∃ m, w.cell? ⟨0, 0, none⟩ = some (.int .i64 m) :=
  TabAt.int (t := (0, .i64, [])) (h (0, .i64, []) (by unfold tabs; simp)) rfl
theorem repRows_strs {w : World} {M : Nat → Prop} {b : Nat} : ∀ (xs : List ByteArray) (o : Nat), (∀ j x, xs[j]? = some x → w.cell? ⟨b, o + j, none⟩ = some (.string x)) → RepRows w M ((xs.map (·.data.toList)).map rowS) b o 1
  | [], o, _ => by simp [RepRows]
  | x :: xs, o, h => by
    simp only [List.map_cons]
    unfold RepRows
    refine ⟨rfl, ?_, repRows_strs xs (o + 1) fun j y hy => by have := h (j + 1) y (by simpa using hy); rwa [show o + (j + 1) = o + 1 + j by omega] at this⟩
    unfold rowS RepAt
    refine ⟨⟨.string x, by simpa using h 0 x rfl, rfl, ?_⟩, by unfold RepAt; trivial⟩
    unfold Rep
    rw [Lib.mk_data]
theorem alloc_cell (w : World) (C : Array Value) (T : TypeId) (j : Nat) : (w.alloc (.cells C T)).cell? ⟨w.heap.size, j, none⟩ = C[j]? := by
  have hh : (w.alloc (.cells C T)).heap[w.heap.size]? = some (.cells C T) := by
    show (w.heap.push _)[w.heap.size]? = _
    simp
  unfold World.cell?
  rw [hh]
  rfl
theorem strs_rep {w : World} {M : Nat → Prop} {xs : List ByteArray} {C : Array Value} {T : TypeId} {cap : Nat} (hM : ∀ b, M b → b < w.heap.size) (hc : ∀ (j : Nat) (x : ByteArray), xs[j]? = some x → C[j]? = some (Value.string x)) (hcap : xs.length ≤ cap) :
    Rep (w.alloc (.cells C T)) M (.slice ((xs.map (·.data.toList)).map rowS)) (.slice (some ⟨w.heap.size, 0, none⟩) xs.length cap) := by
  unfold Rep
  refine ⟨_, _, by rw [List.length_map, List.length_map], by rw [List.length_map, List.length_map]; exact hcap, (fun h => by cases h), .inr ⟨w.heap.size, 0, 1, rfl, fun h => absurd (hM _ h) (Nat.lt_irrefl _), ?_, ?_⟩⟩
  · show _ < (w.heap.push _).size
    rw [Array.size_push]; omega
  · exact repRows_strs xs 0 fun j x hx => by rw [Nat.zero_add, alloc_cell]; exact hc j x hx
theorem below_alloc (w : World) (o : Obj) : Below w.heap.size w (w.alloc o) := (Below.refl _ w).alloc (Nat.le_refl _) _
def m_strings_Split (s sep : List UInt8) : Option (List (List UInt8)) := if s.length < 4294967281 ∧ 1 ≤ sep.length then some (Lib.split s sep) else none
theorem spec_strings_Split (s sep : List UInt8) : ∀ r, m_strings_Split s sep = some r → PureSpec Tryz.prog 41 [.str s, .str sep] (.slice (List.map rowS r)) := by
  intro r hr
  unfold m_strings_Split at hr
  split at hr
  · rename_i h
    cases hr
    refine ⟨by kernel_rfl, fun w M vs hM hv hgood => ?_⟩
    simp only [RepL, Rep] at hv
    obtain ⟨u, us, rfl, rfl, u', us', rfl, rfl, rfl⟩ := hv
    obtain ⟨m, hm⟩ := maxLen_at hgood
    have h1 : (⟨s.toArray⟩ : ByteArray).size < 4294967281 := by simpa [ByteArray.size] using h.1
    have h2 : 1 ≤ (⟨sep.toArray⟩ : ByteArray).size := by simpa [ByteArray.size] using h.2
    refine Calls.mono (Any.strings_Split { Tryz.lays146 with } Tryz.lays146.i9 ⟨s.toArray⟩ ⟨sep.toArray⟩ m w h1 hm h2) ?_
    rintro e w' ⟨rfl, rfl⟩
    have hlen := Lib.splitB_all ⟨sep.toArray⟩ h2 0 _ ⟨s.toArray⟩ rfl
    have hdat := Lib.splitB_data ⟨sep.toArray⟩ 0 (Lib.countB ⟨s.toArray⟩ ⟨sep.toArray⟩) ⟨s.toArray⟩
    refine ⟨_, rfl, ?_, below_alloc _ _⟩
    have := fun T => strs_rep (w := w) (M := M) (T := T) (xs := Lib.splitB ⟨sep.toArray⟩ 0 (Lib.countB ⟨s.toArray⟩ ⟨sep.toArray⟩) ⟨s.toArray⟩) (C := ((Lib.splitB ⟨sep.toArray⟩ 0 (Lib.countB ⟨s.toArray⟩ ⟨sep.toArray⟩) ⟨s.toArray⟩).map Value.string).toArray) (cap := Lib.countB ⟨s.toArray⟩ ⟨sep.toArray⟩ + 1) hM (fun j x hx => by simp [hx]) (by omega)
    simp only [hdat, hlen] at this
    exact this _
  · cases hr
/-! ### strings.SplitN -/
def m_strings_SplitN (s sep : List UInt8) (n : Int) : Option (List (List UInt8)) := if s.length < 4294967281 ∧ 1 ≤ sep.length ∧ 1 ≤ n ∧ n ≤ 9223372036854775807 then some (Lib.splitN s sep n.toNat) else none
theorem spec_strings_SplitN (s sep : List UInt8) (n : Int) : ∀ r, m_strings_SplitN s sep n = some r → PureSpec Tryz.prog 87 [.str s, .str sep, .int .i64 n] (.slice (List.map rowS r)) := by
  intro r hr
  unfold m_strings_SplitN at hr
  split at hr
  · rename_i h
    cases hr
    obtain ⟨k, rfl⟩ : ∃ k : Nat, n = (k : Int) := ⟨n.toNat, by omega⟩
    refine ⟨by kernel_rfl, fun w M vs hM hv hgood => ?_⟩
    simp only [RepL, Rep] at hv
    obtain ⟨u, us, rfl, rfl, u', us', rfl, rfl, u'', us'', rfl, rfl, rfl⟩ := hv
    obtain ⟨m, hm⟩ := maxLen_at hgood
    have hz : (⟨s.toArray⟩ : ByteArray).size = s.length := by simp [ByteArray.size]
    have h1 : (⟨s.toArray⟩ : ByteArray).size < 4294967281 := by simpa [ByteArray.size] using h.1
    have h2 : 1 ≤ (⟨sep.toArray⟩ : ByteArray).size := by simpa [ByteArray.size] using h.2.1
    refine Calls.mono (Any.strings_SplitN { Tryz.lays147 with } Tryz.lays147.i9 ⟨s.toArray⟩ ⟨sep.toArray⟩ k m w h1 hm h2 (by omega) (by omega)) ?_
    rintro e w' ⟨rfl, rfl⟩
    have hlen := Lib.splitB_length_le ⟨sep.toArray⟩ 0 (min k ((⟨s.toArray⟩ : ByteArray).size + 1) - 1) ⟨s.toArray⟩
    have hdat := Lib.splitB_data ⟨sep.toArray⟩ 0 (min k ((⟨s.toArray⟩ : ByteArray).size + 1) - 1) ⟨s.toArray⟩
    have hd2 : (Lib.splitB ⟨sep.toArray⟩ 0 (min k ((⟨s.toArray⟩ : ByteArray).size + 1) - 1) ⟨s.toArray⟩).map (·.data.toList) = Lib.splitN s sep k := by
      rw [hdat, hz]; rfl
    refine ⟨_, rfl, ?_, below_alloc _ _⟩
    rw [Int.toNat_natCast, ← hd2]
    refine strs_rep (w := w) (M := M) hM (fun j x hx => ?_) (by omega)
    unfold Lib.cellsOf
    simp only [List.getElem?_toArray]
    rw [List.getElem?_append_left (by have := (List.getElem?_eq_some_iff.1 hx).1; simpa using this), List.getElem?_map, hx]
    rfl
  · cases hr
/-! ### strings.Cut, CutSuffix -/
def m_strings_CutSuffix (s p : List UInt8) : Option (List UInt8 × Bool) := if s.length ≤ 9223372036854775807 then some (Lib.trimSuffix s p, Lib.hasSuffix s p) else none
theorem spec_strings_CutSuffix (s p : List UInt8) : ∀ r, m_strings_CutSuffix s p = some r → PureSpec Tryz.prog 58 [.str s, .str p] (.tup [.str r.1, .bool r.2]) := by
  intro r hr
  unfold m_strings_CutSuffix at hr
  split at hr
  · rename_i h
    cases hr
    refine ⟨by kernel_rfl, fun w M vs hM hv hgood => ?_⟩
    simp only [RepL, Rep] at hv
    obtain ⟨u, us, rfl, rfl, u', us', rfl, rfl, rfl⟩ := hv
    refine Calls.mono (Any.strings_CutSuffix Tryz.lays104 ⟨s.toArray⟩ ⟨p.toArray⟩ w (by simpa [ByteArray.size] using h)) ?_
    rintro e w' ⟨rfl, rfl⟩
    refine ⟨_, rfl, ?_, Below.refl _ _⟩
    unfold Rep
    refine ⟨_, rfl, ?_⟩
    simp [RepL, Rep]
  · cases hr
/-! ### strconv.Atoi -/
noncomputable def m_strconv_Atoi (s : List UInt8) : Option Int := if s.length ≤ 18 then Lib.atoi s else none
theorem spec_strconv_Atoi (s : List UInt8) : ∀ r, m_strconv_Atoi s = some r → PureSpec Tryz.prog 73 [.str s] (.tup [.int .i64 r, .raw .nilIface]) := by
  intro r hr
  unfold m_strconv_Atoi at hr
  split at hr
  · rename_i h
    refine ⟨by kernel_rfl, fun w M vs hM hv hgood => ?_⟩
    simp only [RepL, Rep] at hv
    obtain ⟨u, us, rfl, rfl, rfl⟩ := hv
    refine Calls.mono (Any.strconv_Atoi Tryz.lays172 ⟨s.toArray⟩ r (by simpa [ByteArray.size] using h) hr w) ?_
    rintro e w' ⟨rfl, t, rfl⟩
    refine ⟨_, rfl, ?_, ⟨rfl, rfl, rfl, by rw [Lib.bytesWorld_size]; omega, fun j hj => Lib.bytesWorld_at_old w _ t j hj⟩⟩
    unfold Rep
    refine ⟨_, rfl, ?_⟩
    simp [RepL, Rep]
  · cases hr
end Go.Proofs.YtdkncdkdbddgoaaGreatDoor

/-
  DERIVED: THE SHELF's CONTRACTS AT THIS DUMP, IN PLAIN WORDS (tools/lay-plain.mjs out of 'YtdkncdkdbddgoaaGreatDoorShelfW.lean', which tools/lay-shelf.mjs wrote): THE SAME DECLARATIONS UNDER THE SAME NAMES: 'import', 'namespace', 'open', 'def', 'theorem' AND NOTHING ELSE: no command of the shelf's: FOR A HAND-IN. Each laying: the table of numbers ('.._ren') and one theorem, a field a fact of the dump's own or the kernel's comparison; each contract: ONE APPLICATION.
-/
namespace Go.Proofs
open Go.Shelf
def Tryz.lays103_ren : Go.Shelf.Ren := ⟨fun | 103 => 63 | 210 => 90 | 206 => 107 | n => n, fun | 9 => 9 | 4 => 4 | 24 => 97 | 3 => 3 | n => n, fun | n => n⟩
theorem Tryz.lays103 : Go.Proofs.Lays.n103 Tryz.prog Tryz.lays103_ren := {
  mixed := by kernel_rfl
  f103 := Tryz.func63.trans (congrArg some (by kernel_rfl))
  f206 := Tryz.func107.trans (congrArg some (by kernel_rfl))
  f210 := Tryz.func90.trans (congrArg some (by kernel_rfl))
  t3 := Tryz.underlying3
  a3 := Tryz.isAgg3
  z3 := Tryz.sizeOf3
  v3 := Tryz.zeroValue3
  t4 := Tryz.underlying4
  a4 := Tryz.isAgg4
  z4 := Tryz.sizeOf4
  v4 := Tryz.zeroValue4
  t9 := Tryz.underlying9
  a9 := Tryz.isAgg9
  z9 := Tryz.sizeOf9
  v9 := Tryz.zeroValue9
  t24 := Tryz.underlying97
  a24 := Tryz.isAgg97
  z24 := Tryz.sizeOf97
  v24 := Tryz.zeroValue97 }
end Go.Proofs

/-
  strings.CutPrefix.
-/
namespace Go.Proofs.YtdkncdkdbddgoaaGreatDoor
set_option linter.unusedSimpArgs false
set_option linter.unusedVariables false
open Go.RowKit Go.Shelf

def m_strings_CutPrefix (s p : List UInt8) : Option (List UInt8 × Bool) := some (Lib.trimPrefix s p, Lib.hasPrefix s p)
theorem spec_strings_CutPrefix (s p : List UInt8) : ∀ r, m_strings_CutPrefix s p = some r → PureSpec Tryz.prog 63 [.str s, .str p] (.tup [.str r.1, .bool r.2]) := by
  intro r hr
  unfold m_strings_CutPrefix at hr
  cases hr
  refine ⟨by kernel_rfl, fun w M vs hM hv hgood => ?_⟩
  simp only [RepL, Rep] at hv
  obtain ⟨u, us, rfl, rfl, u', us', rfl, rfl, rfl⟩ := hv
  refine Calls.mono (Any.strings_CutPrefix Tryz.lays103 ⟨s.toArray⟩ ⟨p.toArray⟩ w) ?_
  rintro e w' ⟨rfl, rfl⟩
  refine ⟨_, rfl, ?_, Below.refl _ _⟩
  unfold Rep
  refine ⟨_, rfl, ?_⟩
  simp [RepL, Rep]
end Go.Proofs.YtdkncdkdbddgoaaGreatDoor

/-
  math/bits.TrailingZeros64 at the one number at which it is asked here.
-/
namespace Go.Proofs.YtdkncdkdbddgoaaGreatDoor
set_option linter.unusedSimpArgs false
set_option linter.unusedVariables false
open Go.RowKit

theorem tz0 : bits BinOp.and IntKind.u64 16 (IntKind.u64.wrap (-16)) = 16 := by decide
theorem tz1 : IntKind.u64.wrap (16 * 285870213051353865) = 4573923408821661840 := by decide
attribute [local simp] tz0 tz1
def m_math_bits_TrailingZeros64 (x : Int) : Option Int := if x = 16 then some 4 else none
set_option maxRecDepth 100000 in
theorem spec_math_bits_TrailingZeros64 (x : Int) : ∀ r, m_math_bits_TrailingZeros64 x = some r → PureSpec Tryz.prog 162 [.int .u64 x] (.int .i64 r) := by
  intro r hr
  unfold m_math_bits_TrailingZeros64 at hr
  split at hr
  · rename_i h
    subst h
    cases hr
    refine ⟨by kernel_rfl, fun w M vs hM hv hgood => ?_⟩
    simp only [RepL, Rep] at hv
    obtain ⟨u, us, rfl, rfl, rfl⟩ := hv
    obtain ⟨u, f, hc⟩ := (hgood (tabs[1]) (List.getElem_mem (by decide))).at (by decide)
    have hcell : w.cell? ⟨7, 15, none⟩ = some (.int .u8 4) := by
      unfold World.cell?
      simp only
      rw [show 7 = (tabs[1]).1 from rfl, hc]
      rfl
    show Calls Tryz.prog 162 #[.int .u64 16] w _
    go_enter Tryz.func162, Tryz.ntmps162
    go_wp2
    go_ret
    exact ⟨_, rfl, by simp [Rep], Below.refl _ _⟩
  · cases hr
end Go.Proofs.YtdkncdkdbddgoaaGreatDoor

/-
  Bodies of functions and what they compute, printed by programs of mine (wip/tool/gen.py, sc.py) out of the translation; the kernel holds each against the translation.
-/
namespace Go.Proofs.YtdkncdkdbddgoaaGreatDoor
open Go.RowKit
set_option linter.unusedSimpArgs false
set_option linter.unusedVariables false
/-- internal/strconv.isPowerOfTwo -/
def sc_internal_strconv_isPowerOfTwo : SC :=
  (.seq (.reg [.r 2 (.mv (.c (.d (.bool false))))])
  (.seq (.reg [.r 3 (.mv (.t 0)),
     .r 4 (.mv (.t 0)),
     .r 5 (.bin .sub (.t 4) (.c (.d (.int .i64 1)))),
     .r 6 (.bin .and (.t 3) (.t 5)),
     .r 7 (.bin .eql (.t 6) (.c (.d (.int .i64 0)))),
     .r 2 (.mv (.t 7))])
  .ret))
theorem fit_internal_strconv_isPowerOfTwo : fits Tryz.prog 152 Tryz.f152 sc_internal_strconv_isPowerOfTwo [.t 2] 1 = true := by kernel_rfl

/-- math/bits.TrailingZeros -/
def sc_math_bits_TrailingZeros : SC :=
  (.seq (.reg [.r 2 (.mv (.c (.d (.int .i64 0))))])
  (.seq (.cond (.c (.d (.bool false)))
    .any
    .skip)
  (.seq (.reg [.r 6 (.mv (.t 0)),
     .c 7 (.f 162) [.t 6],
     .r 2 (.mv (.t 7))])
  .ret)))
theorem fit_math_bits_TrailingZeros : fits Tryz.prog 153 Tryz.f153 sc_math_bits_TrailingZeros [.t 2] 1 = true := by kernel_rfl

set_option maxRecDepth 100000 in
set_option maxHeartbeats 40000000 in
noncomputable def sims_F1_0_0 : (∀ (x0 : Int), {m : Option (Bool) // ∀ r, m = some r → PureSpec Tryz.prog 152 [.int .i64 x0] (.bool r)}) × (∀ (x0 : Int), {m : Option (Int) // ∀ r, m = some r → PureSpec Tryz.prog 153 [.int .u64 x0] (.int .i64 r)}) := by
  refine ⟨?g0, ?g1⟩
  case' g0 => (intro x0; apply Subtype.mk; intro r hm; apply pure_walk Tryz.func152 fit_internal_strconv_isPowerOfTwo; unfold sc_internal_strconv_isPowerOfTwo)
  case' g1 => (intro x0; apply Subtype.mk; intro r hm; apply pure_walk Tryz.func153 fit_math_bits_TrailingZeros; unfold sc_math_bits_TrailingZeros)
  all_goals (repeat' (first | with_reducible refine W_seq ?_ | with_reducible refine W_reg ?_ | with_reducible refine W_block ?_ | with_reducible refine W_skip ?_ | with_reducible refine W_ret ?_ | with_reducible refine W_exit ?_ | with_reducible refine O_nil ?_ | with_reducible refine K_seq ?_ | with_reducible refine K_seqE ?_ | with_reducible refine K_seqR ?_ | with_reducible refine K_block ?_ | with_reducible refine K_blockR ?_ | with_reducible refine K_blockE ?_ | ((with_reducible apply K_blockN); decide) | ((with_reducible apply O_r); (simp only [push_cast, seval]; rfl); (first | exact trivial | omega)) | (with_reducible apply W_any hm) | ((with_reducible apply W_condT); (focus (simp only [push_cast, seval]; done))) | ((with_reducible apply W_condF); (focus (simp only [push_cast, seval]; done))) | ((with_reducible apply O_cF hm); (simp only [push_cast, seval]; rfl); (first | apply spec_math_bits_TrailingZeros64 _); (any_goals ((repeat' (first | rfl | (with_reducible first | apply f_optN | apply f_optS | apply f_some | apply f_tup | apply f_agg | apply f_ptr | apply f_fn | apply dv_slice | apply sv_d | apply f_cons | apply fold_nil | apply fold_cons | apply fold_app | apply f_rowI | apply f_rowY | apply f_rowS | apply f_rowB | apply f_rowL) | (with_reducible apply f_byte; decide))); done)); intro x hm) | ((with_reducible apply S_condB hm); (simp only [push_cast, seval]; rfl); intro hm; rotate_left; intro hm) | ((with_reducible apply K_endS hm); (focus (simp only [resOf, resL, RV.get, push_cast, seval]; rfl)); (focus ((repeat' (first | rfl | (with_reducible first | apply f_optN | apply f_optS | apply f_some | apply f_tup | apply f_agg | apply f_ptr | apply f_fn | apply dv_slice | apply sv_d | apply f_cons | apply fold_nil | apply fold_cons | apply fold_app | apply f_rowI | apply f_rowY | apply f_rowS | apply f_rowB | apply f_rowL) | (with_reducible apply f_byte; decide))); done)))))
noncomputable def m_internal_strconv_isPowerOfTwo (x0 : Int) : Option (Bool) := (sims_F1_0_0.1 x0).1
theorem spec_internal_strconv_isPowerOfTwo (x0 : Int) : ∀ r, m_internal_strconv_isPowerOfTwo x0 = some r → PureSpec Tryz.prog 152 [.int .i64 x0] (.bool r) := (sims_F1_0_0.1 x0).2
noncomputable def m_math_bits_TrailingZeros (x0 : Int) : Option (Int) := (sims_F1_0_0.2 x0).1
theorem spec_math_bits_TrailingZeros (x0 : Int) : ∀ r, m_math_bits_TrailingZeros x0 = some r → PureSpec Tryz.prog 153 [.int .u64 x0] (.int .i64 r) := (sims_F1_0_0.2 x0).2

def sc_internal_strconv_formatBits_L1 : SC :=
  (.seq (.seq (.reg [.r 44 (.mv (.t 1)),
     .r 45 (.mv (.t 15)),
     .r 46 (.bin .geq (.t 44) (.t 45))])
  (.cond (.t 46)
    .skip
    (.exit 0)))
  (.block 1 (.seq (.reg [.r 47 (.mv (.t 13)),
       .r 48 (.bin .sub (.t 47) (.c (.d (.int .i64 1)))),
       .r 13 (.mv (.t 48))])
    (.seq (.reg [.r 49 (.mv (.t 13)),
       .r 50 (.mv (.t 1)),
       .r 51 (.mv (.t 16)),
       .r 52 (.bin .and (.t 50) (.t 51)),
       .r 53 (.sidx (.c (.d (.str [48, 49, 50, 51, 52, 53, 54, 55, 56, 57, 97, 98, 99, 100, 101, 102, 103, 104, 105, 106, 107, 108, 109, 110, 111, 112, 113, 114, 115, 116, 117, 118, 119, 120, 121, 122]))) (.t 52)),
       .r 54 (.aidx 1 65 (.t 12) (.t 49)),
       .w 0 (.st 1 (.t 54) (.t 53))])
    (.reg [.r 55 (.mv (.t 1)),
       .r 56 (.mv (.t 14)),
       .r 57 (.bin .shr (.t 55) (.t 56)),
       .r 1 (.mv (.t 57))])))))
def sc_internal_strconv_formatBits_B1 : SC := .block 0 (.loop sc_internal_strconv_formatBits_L1)
def sc_internal_strconv_formatBits_R30 : SC := (.reg [.r 99 (.mv (.t 13)),
     .r 100 (.slcP 65 (.t 12) (.t 99)),
     .r 101 (.cvbs (.t 100)),
     .r 11 (.mv (.t 101))])
/-- internal/strconv.formatBits -/
def sc_internal_strconv_formatBits : SC :=
  (.seq (.reg [.r 10 (.mv (.c (.nils))),
     .r 11 (.mv (.c (.d (.str []))))])
  (.seq (.seq (.reg (.r 19 (.mv (.t 2)) :: .r 20 (.bin .lss (.t 19) (.c (.d (.int .i64 2)))) :: .r 21 (.mv (.t 20)) :: gapp [22, 23] 21 false (.r 22 (.mv (.t 2)) :: .r 23 (.bin .eql (.t 22) (.c (.d (.int .i64 10)))) :: []) (.r 24 (.pick (.t 21) (.c (.d (.bool true))) (.t 23)) :: .r 25 (.mv (.t 24)) :: gapp [26, 27] 25 false (.r 26 (.mv (.t 2)) :: .r 27 (.bin .gtr (.t 26) (.c (.d (.int .i64 36)))) :: []) (.r 28 (.pick (.t 25) (.c (.d (.bool true))) (.t 27)) :: []))))
  (.cond (.t 28)
    .any
    .skip))
  (.seq (.reg [.w 12 (.boxM (.c (.agg [.d (.int .u8 0), .d (.int .u8 0), .d (.int .u8 0), .d (.int .u8 0), .d (.int .u8 0), .d (.int .u8 0), .d (.int .u8 0), .d (.int .u8 0), .d (.int .u8 0), .d (.int .u8 0), .d (.int .u8 0), .d (.int .u8 0), .d (.int .u8 0), .d (.int .u8 0), .d (.int .u8 0), .d (.int .u8 0), .d (.int .u8 0), .d (.int .u8 0), .d (.int .u8 0), .d (.int .u8 0), .d (.int .u8 0), .d (.int .u8 0), .d (.int .u8 0), .d (.int .u8 0), .d (.int .u8 0), .d (.int .u8 0), .d (.int .u8 0), .d (.int .u8 0), .d (.int .u8 0), .d (.int .u8 0), .d (.int .u8 0), .d (.int .u8 0), .d (.int .u8 0), .d (.int .u8 0), .d (.int .u8 0), .d (.int .u8 0), .d (.int .u8 0), .d (.int .u8 0), .d (.int .u8 0), .d (.int .u8 0), .d (.int .u8 0), .d (.int .u8 0), .d (.int .u8 0), .d (.int .u8 0), .d (.int .u8 0), .d (.int .u8 0), .d (.int .u8 0), .d (.int .u8 0), .d (.int .u8 0), .d (.int .u8 0), .d (.int .u8 0), .d (.int .u8 0), .d (.int .u8 0), .d (.int .u8 0), .d (.int .u8 0), .d (.int .u8 0), .d (.int .u8 0), .d (.int .u8 0), .d (.int .u8 0), .d (.int .u8 0), .d (.int .u8 0), .d (.int .u8 0), .d (.int .u8 0), .d (.int .u8 0), .d (.int .u8 0)])))])
  (.seq (.reg [.r 13 (.mv (.c (.d (.int .i64 65))))])
  (.seq (.seq (.reg [.r 30 (.mv (.t 3))])
  (.cond (.t 30)
    .any
    .skip))
  (.seq (.seq (.reg [.r 33 (.mv (.t 2)),
     .c 34 (.f 152) [.t 33]])
  (.cond (.t 34)
    (.seq (.reg [.r 35 (.mv (.t 2)),
       .r 36 (.cvi .u64 (.t 35)),
       .c 37 (.f 153) [.t 36],
       .r 38 (.cvi .u64 (.t 37)),
       .r 14 (.mv (.t 38))])
    (.seq (.reg [.r 39 (.mv (.t 2)),
       .r 40 (.cvi .u64 (.t 39)),
       .r 15 (.mv (.t 40))])
    (.seq (.reg [.r 41 (.mv (.t 2)),
       .r 42 (.cvi .u64 (.t 41)),
       .r 43 (.bin .sub (.t 42) (.c (.d (.int .u64 1)))),
       .r 16 (.mv (.t 43))])
    (.seq sc_internal_strconv_formatBits_B1
    (.seq (.reg [.r 58 (.mv (.t 13)),
       .r 59 (.bin .sub (.t 58) (.c (.d (.int .i64 1)))),
       .r 13 (.mv (.t 59))])
    (.reg [.r 60 (.mv (.t 13)),
       .r 61 (.mv (.t 1)),
       .r 62 (.sidx (.c (.d (.str [48, 49, 50, 51, 52, 53, 54, 55, 56, 57, 97, 98, 99, 100, 101, 102, 103, 104, 105, 106, 107, 108, 109, 110, 111, 112, 113, 114, 115, 116, 117, 118, 119, 120, 121, 122]))) (.t 61)),
       .r 63 (.aidx 1 65 (.t 12) (.t 60)),
       .w 0 (.st 1 (.t 63) (.t 62))]))))))
    .any))
  (.seq (.seq (.reg [.r 89 (.mv (.t 3))])
  (.cond (.t 89)
    .any
    .skip))
  (.seq (.seq (.reg [.r 94 (.mv (.t 4))])
  (.cond (.t 94)
    .any
    .skip))
  (.seq sc_internal_strconv_formatBits_R30
  .ret)))))))))
theorem fit_internal_strconv_formatBits : fits Tryz.prog 134 Tryz.f134 sc_internal_strconv_formatBits [.t 10, .t 11] 5 = true := by kernel_rfl

set_option maxRecDepth 100000 in
set_option maxHeartbeats 40000000 in
noncomputable def sims_F1_1_0 : (∀ (x0 : List UInt8) (x1 : Int) (x2 : Int) (x3 : Bool) (x4 : Bool), {m : Option ((List UInt8) × (List UInt8)) // ∀ r, m = some r → PureSpec Tryz.prog 134 [.slice (List.map rowY x0), .int .u64 x1, .int .i64 x2, .bool x3, .bool x4] (.tup [.slice (List.map rowY r.1), .str r.2])}) := by
  (intro x0 x1 x2 x3 x4; apply Subtype.mk; intro r hm; apply pure_walk Tryz.func134 fit_internal_strconv_formatBits; unfold sc_internal_strconv_formatBits)
  repeat' (first | ((apply W_frzB (x := sc_internal_strconv_formatBits_R30) (id := 12) (slot := 12)); (focus (simp only [push_cast, seval]; (try rfl); done)); (focus (simp only [push_cast, seval]; (try rfl); done)); (focus (simp only [push_cast, seval]; (try rfl); done)); unfold sc_internal_strconv_formatBits_R30) | with_reducible refine W_seq ?_ | with_reducible refine W_reg ?_ | with_reducible refine W_block ?_ | with_reducible refine W_skip ?_ | with_reducible refine W_ret ?_ | with_reducible refine W_exit ?_ | with_reducible refine O_nil ?_ | with_reducible refine K_seq ?_ | with_reducible refine K_seqE ?_ | with_reducible refine K_seqR ?_ | with_reducible refine K_block ?_ | with_reducible refine K_blockR ?_ | with_reducible refine K_blockE ?_ | ((with_reducible apply K_blockN); decide) | ((with_reducible apply O_sidxr hm); (iterate 2 (simp only [push_cast, seval]; rfl)); intro e hm) | ((with_reducible apply O_cvbsD); (simp only [push_cast, seval]; rfl)) | ((with_reducible apply O_cvbsL); (simp only [push_cast, seval]; rfl); (focus (repeat' (first | exact bytesC_nil | with_reducible apply bytesC_cons)))) | ((with_reducible apply O_cvbsV); (iterate 2 (simp only [push_cast, seval]; rfl))) | ((with_reducible apply O_aidxr hm); (iterate 2 (simp only [push_cast, seval]; rfl)); intro hm) | ((with_reducible apply O_r); (simp only [push_cast, seval]; rfl); (first | exact trivial | omega)) | ((with_reducible apply O_ldCr hm); (iterate 2 (simp only [push_cast, seval]; rfl)); intro a hm) | ((with_reducible apply O_shr hm); (iterate 2 (simp only [push_cast, seval]; rfl)); intro hm) | ((with_reducible apply O_slcPY hm); (iterate 2 (simp only [push_cast, seval]; rfl)); intro hm) | (with_reducible apply W_any hm) | ((with_reducible apply O_or hm); (simp only [push_cast, seval]; rfl); rfl; intro v hm; rotate_left; intro v g hm) | ((with_reducible apply W_condT); (focus (simp only [push_cast, seval]; done))) | ((with_reducible apply W_condF); (focus (simp only [push_cast, seval]; done))) | ((with_reducible apply O_cF hm); (simp only [push_cast, seval]; rfl); (first | apply spec_internal_strconv_isPowerOfTwo _ | apply spec_math_bits_TrailingZeros _); (any_goals ((repeat' (first | rfl | (with_reducible first | apply f_optN | apply f_optS | apply f_some | apply f_tup | apply f_agg | apply f_ptr | apply f_fn | apply dv_slice | apply sv_d | apply f_cons | apply fold_nil | apply fold_cons | apply fold_app | apply f_rowI | apply f_rowY | apply f_rowS | apply f_rowB | apply f_rowL) | (with_reducible apply f_byte; decide))); done)); intro x hm) | ((with_reducible apply O_w); (simp only [push_cast, seval]; rfl); (first | exact trivial | omega)) | ((with_reducible apply O_stC hm); (iterate 3 (simp only [push_cast, seval]; rfl)); (focus ((repeat' (first | rfl | (with_reducible first | apply f_optN | apply f_optS | apply f_some | apply f_tup | apply f_agg | apply f_ptr | apply f_fn | apply dv_slice | apply sv_d | apply f_cons | apply fold_nil | apply fold_cons | apply fold_app | apply f_rowI | apply f_rowY | apply f_rowS | apply f_rowB | apply f_rowL) | (with_reducible apply f_byte; decide))); done)); rfl; intro e hm) | ((with_reducible apply S_condB hm); (simp only [push_cast, seval]; rfl); intro hm; rotate_left; intro hm) | ((with_reducible apply K_end2 hm); (focus (simp only [resOf, resL, RV.get, push_cast, seval]; rfl)); (focus (first | (dsimp only; done) | (dsimp only; rfl) | rfl)); (focus ((repeat' (first | rfl | (with_reducible first | apply f_optN | apply f_optS | apply f_some | apply f_tup | apply f_agg | apply f_ptr | apply f_fn | apply dv_slice | apply sv_d | apply f_cons | apply fold_nil | apply fold_cons | apply fold_app | apply f_rowI | apply f_rowY | apply f_rowS | apply f_rowB | apply f_rowL) | (with_reducible apply f_byte; decide))); done))) | ((with_reducible apply K_bool hm); (simp only [push_cast, seval]; rfl)) | ((with_reducible apply K_leave hm); intro r hm) | ((with_reducible apply K_leaveR hm); intro r hm) | ((apply S_loopY (b := 0) (X := sc_internal_strconv_formatBits_B1) (x := sc_internal_strconv_formatBits_L1) rfl (fun (c : SV × SV × SV × SV × SV × SV) (s : Int × (List UInt8) × Int) => st [(1, .d (.int .u64 s.1)), (3, c.1), (4, c.2.1), (10, c.2.2.1), (12, .ref 12 0), (13, .d (.int .i64 s.2.2)), (14, c.2.2.2.1), (15, c.2.2.2.2.1), (16, c.2.2.2.2.2)] [(12, .box (vcells cY s.2.1))]) (c := (_, _, _, _, _, _)) (s0 := (_, _, _)) hm); (focus (first | (dsimp only; done) | (dsimp only; rfl) | rfl)); (with_reducible refine Then.mk ?_ ?_)) | ((apply K_next (s' := (_, _, _)) hm); (focus (first | (dsimp only; done) | (dsimp only; rfl) | rfl))) | ((apply K_brk (s' := (_, _, _)) hm); (focus (first | (dsimp only; done) | (dsimp only; rfl) | rfl))) | (((with_reducible apply K_brkN hm); (focus decide); intro r hm)) | (((with_reducible apply K_brkR hm); intro r hm)) | (((with_reducible apply LoopB.of); (focus (first | (dsimp only; done) | (dsimp only; rfl) | rfl)); (focus ((intro _; repeat' (first | with_reducible exact impC_end | with_reducible exact impC_endF | with_reducible refine impC_seq ?_ | with_reducible refine impC_block ?_ | ((with_reducible refine impC_rnd ?_); intro _) | ((with_reducible refine impC_brk ?_); intro _))))); (intro s o hm; first | unfold sc_internal_strconv_formatBits_L1); rotate_left; intro s hm)) | (((apply imp_stT; (repeat' (first | with_reducible exact keepT_nil | with_reducible exact keepC_nil | with_reducible apply keepT_cons | with_reducible apply keepC_cons | ((with_reducible apply svle_eq); (focus (first | (simp only [push_cast, seval]; rfl) | rfl)); (focus ((repeat' (first | rfl | (with_reducible first | apply f_optN | apply f_optS | apply f_some | apply f_tup | apply f_agg | apply f_ptr | apply f_fn | apply dv_slice | apply sv_d | apply f_cons | apply fold_nil | apply fold_cons | apply fold_app | apply f_rowI | apply f_rowY | apply f_rowS | apply f_rowB | apply f_rowL) | (with_reducible apply f_byte; decide))); done))) | ((with_reducible apply svle_td); (focus (first | (simp only [push_cast, seval]; rfl) | rfl)); (focus (first | (simp only [push_cast, seval]; rfl) | rfl)); (focus ((repeat' (first | rfl | (with_reducible first | apply f_optN | apply f_optS | apply f_some | apply f_tup | apply f_agg | apply f_ptr | apply f_fn | apply dv_slice | apply sv_d | apply f_cons | apply fold_nil | apply fold_cons | apply fold_app | apply f_rowI | apply f_rowY | apply f_rowS | apply f_rowB | apply f_rowL) | (with_reducible apply f_byte; decide))); done))) | ((with_reducible apply chle_eq); (focus (first | (simp only [push_cast, seval]; rfl) | rfl)); (first | with_reducible exact chle_rfl rfl | with_reducible exact chle_map0 | with_reducible apply chle_vec | with_reducible apply chle_box)) | (with_reducible first | apply r_shS | apply r_shI | apply r_rflO | apply r_oneO | apply r_appO | apply r_nilO | apply c_ownN | apply c_ownL | apply vc_rfl | apply vc_nil | apply vc_cons | apply r_rfl | apply r_rows | apply r_nil | apply r_app | apply r_cons | apply c_rowI | apply c_rowY | apply c_rowS | apply c_rowB | apply c_rowL))); done))))
noncomputable def m_internal_strconv_formatBits (x0 : List UInt8) (x1 : Int) (x2 : Int) (x3 : Bool) (x4 : Bool) : Option ((List UInt8) × (List UInt8)) := (sims_F1_1_0 x0 x1 x2 x3 x4).1
theorem spec_internal_strconv_formatBits (x0 : List UInt8) (x1 : Int) (x2 : Int) (x3 : Bool) (x4 : Bool) : ∀ r, m_internal_strconv_formatBits x0 x1 x2 x3 x4 = some r → PureSpec Tryz.prog 134 [.slice (List.map rowY x0), .int .u64 x1, .int .i64 x2, .bool x3, .bool x4] (.tup [.slice (List.map rowY r.1), .str r.2]) := (sims_F1_1_0 x0 x1 x2 x3 x4).2

/-- internal/strconv.FormatUint -/
def sc_internal_strconv_FormatUint : SC :=
  (.seq (.reg [.r 4 (.mv (.c (.d (.str []))))])
  (.seq (.seq (.reg [.r 9 (.mv (.t 1)),
     .r 10 (.bin .eql (.t 9) (.c (.d (.int .i64 10))))])
  (.cond (.t 10)
    .any
    .skip))
  (.seq (.reg [.r 26 (.mv (.t 0)),
     .r 27 (.mv (.t 1)),
     .c 28 (.f 134) [.c (.nils), .t 26, .t 27, .c (.d (.bool false)), .c (.d (.bool false))],
     .r 25 (.mv (.t 28)),
     .r 29 (.ext (.t 25) 0),
     .r 30 (.ext (.t 25) 1),
     .r 7 (.mv (.t 29)),
     .r 8 (.mv (.t 30))])
  (.seq (.reg [.r 31 (.mv (.t 8)),
     .r 4 (.mv (.t 31))])
  .ret))))
theorem fit_internal_strconv_FormatUint : fits Tryz.prog 130 Tryz.f130 sc_internal_strconv_FormatUint [.t 4] 2 = true := by kernel_rfl

set_option maxRecDepth 100000 in
set_option maxHeartbeats 40000000 in
noncomputable def sims_F1_2_0 : (∀ (x0 : Int) (x1 : Int), {m : Option ((List UInt8)) // ∀ r, m = some r → PureSpec Tryz.prog 130 [.int .u64 x0, .int .i64 x1] (.str r)}) := by
  (intro x0 x1; apply Subtype.mk; intro r hm; apply pure_walk Tryz.func130 fit_internal_strconv_FormatUint; unfold sc_internal_strconv_FormatUint)
  repeat' (first | with_reducible refine W_seq ?_ | with_reducible refine W_reg ?_ | with_reducible refine W_block ?_ | with_reducible refine W_skip ?_ | with_reducible refine W_ret ?_ | with_reducible refine W_exit ?_ | with_reducible refine O_nil ?_ | with_reducible refine K_seq ?_ | with_reducible refine K_seqE ?_ | with_reducible refine K_seqR ?_ | with_reducible refine K_block ?_ | with_reducible refine K_blockR ?_ | with_reducible refine K_blockE ?_ | ((with_reducible apply K_blockN); decide) | ((with_reducible apply O_r); (simp only [push_cast, seval]; rfl); (first | exact trivial | omega)) | (with_reducible apply W_any hm) | ((with_reducible apply W_condT); (focus (simp only [push_cast, seval]; done))) | ((with_reducible apply W_condF); (focus (simp only [push_cast, seval]; done))) | ((with_reducible apply O_cF hm); (simp only [push_cast, seval]; rfl); (first | apply spec_internal_strconv_formatBits _ _ _ _ _); (any_goals ((repeat' (first | rfl | (with_reducible first | apply f_optN | apply f_optS | apply f_some | apply f_tup | apply f_agg | apply f_ptr | apply f_fn | apply dv_slice | apply sv_d | apply f_cons | apply fold_nil | apply fold_cons | apply fold_app | apply f_rowI | apply f_rowY | apply f_rowS | apply f_rowB | apply f_rowL) | (with_reducible apply f_byte; decide))); done)); intro x hm) | ((with_reducible apply S_condB hm); (simp only [push_cast, seval]; rfl); intro hm; rotate_left; intro hm) | ((with_reducible apply K_endS hm); (focus (simp only [resOf, resL, RV.get, push_cast, seval]; rfl)); (focus ((repeat' (first | rfl | (with_reducible first | apply f_optN | apply f_optS | apply f_some | apply f_tup | apply f_agg | apply f_ptr | apply f_fn | apply dv_slice | apply sv_d | apply f_cons | apply fold_nil | apply fold_cons | apply fold_app | apply f_rowI | apply f_rowY | apply f_rowS | apply f_rowB | apply f_rowL) | (with_reducible apply f_byte; decide))); done))))
noncomputable def m_internal_strconv_FormatUint (x0 : Int) (x1 : Int) : Option ((List UInt8)) := (sims_F1_2_0 x0 x1).1
theorem spec_internal_strconv_FormatUint (x0 : Int) (x1 : Int) : ∀ r, m_internal_strconv_FormatUint x0 x1 = some r → PureSpec Tryz.prog 130 [.int .u64 x0, .int .i64 x1] (.str r) := (sims_F1_2_0 x0 x1).2

/-- strconv.FormatUint -/
def sc_strconv_FormatUint : SC :=
  (.seq (.reg [.r 4 (.mv (.c (.d (.str []))))])
  (.seq (.reg [.r 5 (.mv (.t 0)),
     .r 6 (.mv (.t 1)),
     .c 7 (.f 130) [.t 5, .t 6],
     .r 4 (.mv (.t 7))])
  .ret))
theorem fit_strconv_FormatUint : fits Tryz.prog 103 Tryz.f103 sc_strconv_FormatUint [.t 4] 2 = true := by kernel_rfl

set_option maxRecDepth 100000 in
set_option maxHeartbeats 40000000 in
noncomputable def sims_F1_3_0 : (∀ (x0 : Int) (x1 : Int), {m : Option ((List UInt8)) // ∀ r, m = some r → PureSpec Tryz.prog 103 [.int .u64 x0, .int .i64 x1] (.str r)}) := by
  (intro x0 x1; apply Subtype.mk; intro r hm; apply pure_walk Tryz.func103 fit_strconv_FormatUint; unfold sc_strconv_FormatUint)
  repeat' (first | with_reducible refine W_seq ?_ | with_reducible refine W_reg ?_ | with_reducible refine W_block ?_ | with_reducible refine W_skip ?_ | with_reducible refine W_ret ?_ | with_reducible refine W_exit ?_ | with_reducible refine O_nil ?_ | with_reducible refine K_seq ?_ | with_reducible refine K_seqE ?_ | with_reducible refine K_seqR ?_ | with_reducible refine K_block ?_ | with_reducible refine K_blockR ?_ | with_reducible refine K_blockE ?_ | ((with_reducible apply K_blockN); decide) | ((with_reducible apply O_r); (simp only [push_cast, seval]; rfl); (first | exact trivial | omega)) | ((with_reducible apply W_condT); (focus (simp only [push_cast, seval]; done))) | ((with_reducible apply W_condF); (focus (simp only [push_cast, seval]; done))) | ((with_reducible apply O_cF hm); (simp only [push_cast, seval]; rfl); (first | apply spec_internal_strconv_FormatUint _ _); (any_goals ((repeat' (first | rfl | (with_reducible first | apply f_optN | apply f_optS | apply f_some | apply f_tup | apply f_agg | apply f_ptr | apply f_fn | apply dv_slice | apply sv_d | apply f_cons | apply fold_nil | apply fold_cons | apply fold_app | apply f_rowI | apply f_rowY | apply f_rowS | apply f_rowB | apply f_rowL) | (with_reducible apply f_byte; decide))); done)); intro x hm) | ((with_reducible apply S_condB hm); (simp only [push_cast, seval]; rfl); intro hm; rotate_left; intro hm) | ((with_reducible apply K_endS hm); (focus (simp only [resOf, resL, RV.get, push_cast, seval]; rfl)); (focus ((repeat' (first | rfl | (with_reducible first | apply f_optN | apply f_optS | apply f_some | apply f_tup | apply f_agg | apply f_ptr | apply f_fn | apply dv_slice | apply sv_d | apply f_cons | apply fold_nil | apply fold_cons | apply fold_app | apply f_rowI | apply f_rowY | apply f_rowS | apply f_rowB | apply f_rowL) | (with_reducible apply f_byte; decide))); done))))
noncomputable def m_strconv_FormatUint (x0 : Int) (x1 : Int) : Option ((List UInt8)) := (sims_F1_3_0 x0 x1).1
theorem spec_strconv_FormatUint (x0 : Int) (x1 : Int) : ∀ r, m_strconv_FormatUint x0 x1 = some r → PureSpec Tryz.prog 103 [.int .u64 x0, .int .i64 x1] (.str r) := (sims_F1_3_0 x0 x1).2

end Go.Proofs.YtdkncdkdbddgoaaGreatDoor

/-
  A row that a call has made, as data.
-/
namespace Go.Proofs.YtdkncdkdbddgoaaGreatDoor
set_option linter.unusedSimpArgs false
set_option linter.unusedVariables false
open Go.RowKit Go.Lib
end Go.Proofs.YtdkncdkdbddgoaaGreatDoor

/-
  Calls whose result is an owned slice.
-/
namespace Go.Proofs.YtdkncdkdbddgoaaGreatDoor
set_option linter.unusedSimpArgs false
set_option linter.unusedVariables false
open Go.RowKit Go.Lib

end Go.Proofs.YtdkncdkdbddgoaaGreatDoor

/-
  The layings of strings.Builder's WriteString, String and Len, by hand (the kit's command does not find type interface{}, which no body names any more).
-/
namespace Go.Proofs
open Go.Shelf
def Tryz.lays166_ren : Go.Shelf.Ren := ⟨fun | 166 => 31  | 240 => 56  | 276 => 84 | n => n, fun | 0 => 0  | 3 => 3  | 4 => 4  | 9 => 9  | 20 => 20  | 37 => 66  | 70 => 65  | 72 => 68  | 75 => 70  | 164 => 120  | 5 => 5  | 80 => 75 | n => n, fun | n => n⟩
theorem Tryz.lays166 : Go.Proofs.Lays.n166 Tryz.prog Tryz.lays166_ren := {
  mixed := by kernel_rfl
  f166 := Tryz.func31.trans (congrArg some (by kernel_rfl))
  f240 := Tryz.func56.trans (congrArg some (by kernel_rfl))
  f276 := Tryz.func84.trans (congrArg some (by kernel_rfl))
  t0 := Tryz.underlying0
  a0 := Tryz.isAgg0
  z0 := Tryz.sizeOf0
  v0 := Tryz.zeroValue0
  t3 := Tryz.underlying3
  a3 := Tryz.isAgg3
  z3 := Tryz.sizeOf3
  v3 := Tryz.zeroValue3
  t4 := Tryz.underlying4
  a4 := Tryz.isAgg4
  z4 := Tryz.sizeOf4
  v4 := Tryz.zeroValue4
  t9 := Tryz.underlying9
  a9 := Tryz.isAgg9
  z9 := Tryz.sizeOf9
  v9 := Tryz.zeroValue9
  t20 := Tryz.underlying20
  a20 := Tryz.isAgg20
  z20 := Tryz.sizeOf20
  v20 := Tryz.zeroValue20
  t37 := Tryz.underlying66
  a37 := Tryz.isAgg66
  z37 := Tryz.sizeOf66
  v37 := Tryz.zeroValue66
  t70 := Tryz.underlying65
  a70 := Tryz.isAgg65
  z70 := Tryz.sizeOf65
  v70 := Tryz.zeroValue65
  t72 := Tryz.underlying68
  a72 := Tryz.isAgg68
  z72 := Tryz.sizeOf68
  v72 := Tryz.zeroValue68
  t75 := Tryz.underlying70
  a75 := Tryz.isAgg70
  z75 := Tryz.sizeOf70
  v75 := Tryz.zeroValue70
  t164 := Tryz.underlying120
  a164 := Tryz.isAgg120
  z164 := Tryz.sizeOf120
  v164 := Tryz.zeroValue120 }
def Tryz.lays169_ren : Go.Shelf.Ren := ⟨fun | 169 => 34 | n => n, fun | 0 => 0  | 3 => 3  | 9 => 9  | 37 => 66  | 70 => 65  | 72 => 68  | 127 => 105  | 5 => 5 | n => n, fun | n => n⟩
theorem Tryz.lays169 : Go.Proofs.Lays.n169 Tryz.prog Tryz.lays169_ren := {
  mixed := by kernel_rfl
  f169 := Tryz.func34.trans (congrArg some (by kernel_rfl))
  t0 := Tryz.underlying0
  a0 := Tryz.isAgg0
  z0 := Tryz.sizeOf0
  v0 := Tryz.zeroValue0
  t3 := Tryz.underlying3
  a3 := Tryz.isAgg3
  z3 := Tryz.sizeOf3
  v3 := Tryz.zeroValue3
  t9 := Tryz.underlying9
  a9 := Tryz.isAgg9
  z9 := Tryz.sizeOf9
  v9 := Tryz.zeroValue9
  t37 := Tryz.underlying66
  a37 := Tryz.isAgg66
  z37 := Tryz.sizeOf66
  v37 := Tryz.zeroValue66
  t70 := Tryz.underlying65
  a70 := Tryz.isAgg65
  z70 := Tryz.sizeOf65
  v70 := Tryz.zeroValue65
  t72 := Tryz.underlying68
  a72 := Tryz.isAgg68
  z72 := Tryz.sizeOf68
  v72 := Tryz.zeroValue68
  t127 := Tryz.underlying105
  a127 := Tryz.isAgg105
  z127 := Tryz.sizeOf105
  v127 := Tryz.zeroValue105 }
def Tryz.lays170_ren : Go.Shelf.Ren := ⟨fun | 170 => 33 | n => n, fun | 0 => 0  | 3 => 3  | 37 => 66  | 70 => 65  | 72 => 68  | 5 => 5 | n => n, fun | n => n⟩
theorem Tryz.lays170 : Go.Proofs.Lays.n170 Tryz.prog Tryz.lays170_ren := {
  mixed := by kernel_rfl
  f170 := Tryz.func33.trans (congrArg some (by kernel_rfl))
  t0 := Tryz.underlying0
  a0 := Tryz.isAgg0
  z0 := Tryz.sizeOf0
  v0 := Tryz.zeroValue0
  t3 := Tryz.underlying3
  a3 := Tryz.isAgg3
  z3 := Tryz.sizeOf3
  v3 := Tryz.zeroValue3
  t37 := Tryz.underlying66
  a37 := Tryz.isAgg66
  z37 := Tryz.sizeOf66
  v37 := Tryz.zeroValue66
  t70 := Tryz.underlying65
  a70 := Tryz.isAgg65
  z70 := Tryz.sizeOf65
  v70 := Tryz.zeroValue65
  t72 := Tryz.underlying68
  a72 := Tryz.isAgg68
  z72 := Tryz.sizeOf68
  v72 := Tryz.zeroValue68 }
end Go.Proofs

/-
  strings.Builder: what its methods do, over data values.
-/
namespace Go.Proofs.YtdkncdkdbddgoaaGreatDoor
set_option linter.unusedSimpArgs false
set_option linter.unusedVariables false
open Go.RowKit Go.Shelf Go.Lib

/-- Behind a call: the builder in block b holds bs'; nothing else that was there has turned. -/
def BldTo (w w' : World) (T e b : Nat) (v : Value) (bs' : List UInt8) : Prop :=
  ∃ p' v', w'.heap[b]? = some (.cells #[p', v'] T (0, 0)) ∧ (p' = .pointer none ∨ p' = .pointer (some ⟨b, 0, none⟩)) ∧ w'.ownsRowF 0 e 1 v' bs'.length (Lib.byteCells bs') ∧
    (∀ g, blk v' = some g → w.heap.size ≤ g ∨ blk v = some g) ∧ blk v' ≠ some b ∧ Chg w.heap.size (fun k => k = b ∨ blk v = some k) w w'

theorem blk_own (v : Value) {w : World} {e n : Nat} {xs : List Value} (h : w.ownsRowF 0 e 1 v n xs) : v.ownBlock = blk v := by
  rcases h.2 with ⟨rfl, _⟩ | ⟨g, cap, cur, fz, rfl, _⟩ <;> rfl
theorem blk_lt {v : Value} {w : World} {e n : Nat} {xs : List Value} (h : w.ownsRowF 0 e 1 v n xs) {g : Nat} (hg : blk v = some g) : g < w.heap.size := (h.lt g (by rw [blk_own v h]; exact hg)).2

theorem bld_fspec {P : Program} {f : FuncId} {T e : Nat} {bs bs' : List UInt8} {az : List DV} {vs0 : List Value} {u : Value} {res : SV} (hcall : callable P f = true)
    (has : ∀ (w : World) (M : Nat → Prop) (vs : List Value) (F : List Nat), RepGL w M κ0 (az.map .d) vs F → vs = vs0 ∧ F = []) (has' : ∀ (w : World) (M : Nat → Prop), RepGL w M κ0 (az.map .d) vs0 []) (hres : ∀ (w : World) (M : Nat → Prop), RepG w M κ0 res u [])
    (h : ∀ (w : World) (b : Nat) (p v : Value), w.heap[b]? = some (.cells #[p, v] T (0, 0)) → (p = .pointer none ∨ p = .pointer (some ⟨b, 0, none⟩)) → w.ownsRowF 0 e 1 v bs.length (Lib.byteCells bs) → blk v ≠ some b →
      Calls P f (.pointer (some ⟨b, 0, none⟩) :: vs0).toArray w fun ev w' => ev = .returned u ∧ BldTo w w' T e b v bs') :
    FSpec P f (.own (.bld T e) (.str bs) :: az.map .d) res (.own (.bld T e) (.str bs') :: az.map .d) := by
  refine ⟨hcall, fun w M vs F hM hF hn hv hg _ => ?_⟩
  unfold RepGL at hv
  obtain ⟨u0, us, F1, F2, rfl, rfl, hv, hrest⟩ := hv
  obtain ⟨rfl, rfl⟩ := has _ _ _ _ hrest
  unfold RepG RepO at hv
  obtain ⟨bs0, hbs, b, p, v, rfl, h1, h2, h3, rfl⟩ := hv
  simp only [DV.str.injEq] at hbs
  subst hbs
  simp only [List.append_nil] at hn hF hM ⊢
  have hne : blk v ≠ some b := fun he => by
    have := (List.nodup_cons.1 hn).1
    simp [blkL, he] at this
  have hmem : ∀ k, k ∈ b :: blkL v ↔ k = b ∨ blk v = some k := fun k => by simp [blkL]
  have hb : b < w.heap.size := hF b (by simp)
  refine (h w b p v h1 h2 h3 hne).mono ?_
  rintro ev w' ⟨rfl, p', v', k1, k2, k3, k4, k5, k6⟩
  refine ⟨u, b :: blkL v', [], rfl, ?_, hres _ _, ?_, ?_, k6.mono (Nat.le_refl _) (fun k _ hk => (hmem k).2 hk)⟩
  · unfold RepGL
    refine ⟨_, _, b :: blkL v', [], rfl, (List.append_nil _).symm, ?_, has' _ _⟩
    unfold RepG RepO
    exact ⟨bs', rfl, b, p', v', rfl, k1, k2, k3, rfl⟩
  · rw [List.append_nil]
    refine List.nodup_cons.2 ⟨?_, ?_⟩
    · intro hb'; exact k5 (by simpa [blkL] using hb')
    · unfold blkL; cases blk v' <;> simp
  · intro k hk
    simp only [List.append_nil, List.mem_cons] at hk
    rcases hk with rfl | hk
    · exact ⟨.inl (by simp), Nat.lt_of_lt_of_le hb k6.size⟩
    · have hk' : blk v' = some k := by simpa [blkL] using hk
      refine ⟨?_, blk_lt k3 hk'⟩
      rcases k4 k hk' with h | h
      · exact .inr h
      · exact .inl ((hmem k).2 (.inr h))

section
variable {P : Program} (w : World)
/-- A string's bytes put behind a builder's. -/
theorem run_app_bld (t u ty e : TypeId) (i : TypeInfo) (ht : P.underlying t = some (.slice e)) (hu : P.underlying u = some .string) (hi : P.info? e = some i) (hz : i.zero = some (.int .u8 0)) (hsize : i.size = 1) (hby : i.bytes = 1)
    (v : Value) (n : Nat) (xs : List Value) (hown : w.ownsRowF 0 e 1 v n xs) (s : ByteArray) (hlim : n + s.size ≤ 140737488355328) :
    ∃ v' w', (Builtin.append_ #[t, u] ty #[v, .string s]).run P w = .ok v' w' ∧ w'.ownsRowF 0 e 1 v' (n + s.size) (xs ++ strCells s) ∧ w.grownBy w' v.ownBlock ∧ ∀ b, blk v' = some b → w.heap.size ≤ b ∨ blk v = some b := by
  obtain ⟨v', w', hrun, h1, h2, h3⟩ := Lib.run_append_own_stringF (P := P) w 0 t u ty e i ht hu hi hz hsize hby v n xs hown s (by unfold maxLen; omega) hlim (Nat.zero_le _)
  refine ⟨v', w', hrun, h1, h2, fun b hb => ?_⟩
  rcases hown.2 with ⟨hv, hn⟩ | ⟨g, cap, cur, fz, hv, _, hg, hfz, hnc, hcm, hcs, htake⟩
  · by_cases hl : s.size = 0
    · rw [h3.2 ⟨hv, hl⟩] at hb
      simp [blk] at hb
    · have := run_append_nil_string (P := P) w t u ty e i (.int .u8 0) ht hu hi hz s (by omega) (by omega) (by rw [hby]; omega)
      rw [hv, this] at hrun
      simp only [Result.ok.injEq] at hrun
      rw [← hrun.1] at hb
      simp [blk] at hb
      exact .inl (by omega)
  · rw [hv] at hrun ⊢
    by_cases hroom : n + s.size ≤ cap
    · have := Lib.run_append_room_stringF (P := P) w t u ty e i ht hu hi hsize g n cap cur fz hg (by simpa using hfz) s hroom (by omega)
      rw [this] at hrun
      simp only [Result.ok.injEq] at hrun
      rw [← hrun.1] at hb
      exact .inr hb
    · have := Lib.run_append_grow_string (P := P) w t u ty e i (.int .u8 0) ht hu hi hz ⟨g, 0, none⟩ n cap xs (by rw [hsize]; simpa using hown.1) (hown.cells (g := g) (by rw [hv]; rfl)) s (by omega) (by unfold maxLen at hcm; omega) (by rw [hby]; exact growslice_fits (by omega) (by unfold maxLen at hcm; omega))
      rw [this] at hrun
      simp only [Result.ok.injEq] at hrun
      rw [← hrun.1] at hb
      simp [blk] at hb
      exact .inl (by omega)

theorem wpList_app_bld {ops : Array Oper} {rest : List Oper} {o : Oper} {a : Act} {Q : Exit → Act → World → Prop} (hgd : o.guard = none) (sl x : Operand) (t u : TypeId)
    (ho : o.op = .call { callee := .builtin .append, args := #[sl, x], argTypes := #[t, u] })
    (e : TypeId) (i : TypeInfo) (ht : P.underlying t = some (.slice e)) (hu : P.underlying u = some .string) (hi : P.info? e = some i) (hz : i.zero = some (.int .u8 0)) (hsize : i.size = 1) (hby : i.bytes = 1)
    (v : Value) (n : Nat) (xs : List Value) (hs : a.eval sl = v) (hown : w.ownsRowF 0 e 1 v n xs) (s : ByteArray) (hx : a.eval x = .string s) (hlim : n + s.size ≤ 140737488355328)
    (h : ∀ v' w', w'.ownsRowF 0 e 1 v' (n + s.size) (xs ++ strCells s) → w.grownBy w' v.ownBlock → (∀ b, blk v' = some b → w.heap.size ≤ b ∨ blk v = some b) → wpList P ops Q rest (a.put o.dst v') w') : wpList P ops Q (o :: rest) a w := by
  refine wpList_plain hgd fun K hK => ?_
  obtain ⟨v', w', hr, h2, h3, h4⟩ := run_app_bld (P := P) w t u o.type e i ht hu hi hz hsize hby v n xs hown s hlim
  unfold Oper.wp execOp
  simp only [ho, resolve, invoke, builtin, Sem.run_bind, Sem.run_pure, Result.andThen_ok, List.map_toArray, List.map_cons, List.map_nil, hs, hx, hr]
  exact hK _ _ (h v' w' h2 h3 h4)
end

section
variable {P : Program} {ρ : Ren}
/-- copyCheck: the builder's address is its own. -/
theorem bld_check (L : Lays.n240 P ρ) (X : Builder.X72 P ρ) {b : Nat} {p v : Value} {w : World} (hb : w.heap[b]? = some (.cells #[p, v] (ρ.t 72) (0, 0))) (hp : p = .pointer none ∨ p = .pointer (some ⟨b, 0, none⟩)) :
    Calls P (ρ.f 240) #[.pointer (some ⟨b, 0, none⟩)] w fun e w' => e = .returned (.tuple #[]) ∧ w'.heap[b]? = some (.cells #[.pointer (some ⟨b, 0, none⟩), v] (ρ.t 72) (0, 0)) ∧ (∀ k, k ≠ b → w'.heap[k]? = w.heap[k]?) ∧ w'.heap.size = w.heap.size ∧ w'.os = w.os ∧ w'.tape = w.tape ∧ w'.output = w.output := by
  have h0 : w.cell? ⟨b, 0, none⟩ = some p := by rw [Lib.cell_of_heap hb]; rfl
  rcases hp with rfl | rfl
  · refine (Any.Builder_copyCheck_fresh L X b w h0 (by simp [World.shape?, hb]) (Lib.frozen_of_heap hb 0)).mono ?_
    rintro e w' ⟨rfl, rfl⟩
    refine ⟨rfl, ?_, fun k hk => Below.heap_setCell _ _ _ _ (fun e => hk e), by simp [World.setCell], rfl, rfl, rfl⟩
    simp [World.setCell, Array.getElem?_modify, hb]
  · refine (Any.Builder_copyCheck_used L X b w h0).mono ?_
    rintro e w' ⟨rfl, rfl⟩
    exact ⟨rfl, hb, fun _ _ => rfl, rfl, rfl, rfl, rfl⟩

set_option maxHeartbeats 2000000 in
set_option maxRecDepth 100000 in
theorem bld_write (L : Lays.n166 P ρ) (X : Builder.Extra P ρ) {b : Nat} {p v : Value} {bs : List UInt8} {s : List UInt8} {w : World} (hb : w.heap[b]? = some (.cells #[p, v] (ρ.t 72) (0, 0))) (hp : p = .pointer none ∨ p = .pointer (some ⟨b, 0, none⟩))
    (hown : w.ownsRowF 0 (ρ.t 5) 1 v bs.length (Lib.byteCells bs)) (hne : blk v ≠ some b) (hlen : bs.length + s.length ≤ 140737488355328) :
    Calls P (ρ.f 166) #[.pointer (some ⟨b, 0, none⟩), .string ⟨s.toArray⟩] w fun e w' => e = .returned (.tuple #[.int .i64 s.length, .nilIface]) ∧ BldTo w w' (ρ.t 72) (ρ.t 5) b v (bs ++ s) := by
  obtain ⟨i0, hi, hz0, hz1, hz2⟩ := info_parts X.infoByte
  have mixed := L.mixed
  have t72 := L.t72; have a72 := L.a72; have z72 := L.z72; have v72 := L.v72; have u72 := run_underlying L.t72
  have t70 := L.t70; have a70 := L.a70; have z70 := L.z70; have v70 := L.v70; have u70 := run_underlying L.t70
  have t37 := L.t37; have a37 := L.a37; have z37 := L.z37; have v37 := L.v37; have u37 := run_underlying L.t37
  have t3 := L.t3; have a3 := L.a3; have z3 := L.z3; have v3 := L.v3; have u3 := run_underlying L.t3
  have t9 := L.t9; have a9 := L.a9; have z9 := L.z9; have v9 := L.v9; have u9 := run_underlying L.t9
  have t4 := L.t4; have a4 := L.a4; have z4 := L.z4; have v4 := L.v4; have u4 := run_underlying L.t4
  have t164 := L.t164; have a164 := L.a164; have z164 := L.z164; have v164 := L.v164; have u164 := run_underlying L.t164
  have t5 := X.t5; have a5 := X.a5; have z5 := X.z5; have v5 := X.v5; have u5 := run_underlying X.t5
  have e240 : ∀ args w, (callFunc (ρ.f 240) args).run P w = .ok (.enter (ρ.f 240) args) w := enters_of L.f240 (by kernel_rfl) rfl
  have hsl : (⟨s.toArray⟩ : ByteArray).size = s.length := by simp [ByteArray.size]
  have hlt : b < w.heap.size := (Array.getElem?_eq_some_iff.1 hb).1
  have hob := blk_own v hown
  go_enter L.f166, Body.n166_ntmps ρ
  go_wp2_with (go_at_fn (ρ.f 240); refine (bld_check { L with } X.toX72 hb hp).mono ?_)
  rintro e w1 ⟨rfl, hbk, hk1, hs1, ho1, ht1, hu1⟩
  have hown1 : w1.ownsRowF 0 (ρ.t 5) 1 v bs.length (Lib.byteCells bs) := ownsRowF_ext (fun k hk => hk1 k fun e => hne (by rw [← e]; simpa [blkL] using hk)) hown
  have c0 : w1.cell? ⟨b, 0, none⟩ = some (.pointer (some ⟨b, 0, none⟩)) := by rw [Lib.cell_of_heap hbk]; rfl
  have c1 : w1.cell? ⟨b, 1, none⟩ = some v := by rw [Lib.cell_of_heap hbk]; rfl
  go_wp2_with (at_builtin; refine wpList_app_bld _ rfl _ _ (ρ.t 37) (ρ.t 9) rfl (ρ.t 5) i0 L.t37 L.t9 hi hz0 hz1 hz2 _ _ _ rfl hown1 ⟨s.toArray⟩ rfl ?c3 ?_)
  case c3 => omega
  intro v' w2 hown' hgrow hblk
  have hb2 : w2.heap[b]? = some (.cells #[.pointer (some ⟨b, 0, none⟩), v] (ρ.t 72) (0, 0)) := by
    rw [hgrow.block b (by omega) (fun e => hne (by first | exact e.symm | (rw [← hob]; exact e.symm)))]
    exact hbk
  have d0 : w2.cell? ⟨b, 0, none⟩ = some (.pointer (some ⟨b, 0, none⟩)) := by rw [Lib.cell_of_heap hb2]; rfl
  have d1 : w2.cell? ⟨b, 1, none⟩ = some v := by rw [Lib.cell_of_heap hb2]; rfl
  have f1 : w2.frozen? ⟨b, 1, none⟩ = false := Lib.frozen_of_heap hb2 1
  have hob' := blk_own v' hown'
  have hnb : blk v' ≠ some b := fun he => by
    rcases hblk b he with h | h
    · omega
    · exact hne h
  have hcells : Lib.byteCells bs ++ strCells ⟨s.toArray⟩ = Lib.byteCells (bs ++ s) := by
    simp [Lib.byteCells, Lib.strCells]
  rw [hcells] at hown'
  try rw [hsl] at hown'
  obtain ⟨ao, n', cap, rfl⟩ : ∃ ao n' cap, v' = .slice ao n' cap := by
    rcases hown'.2 with ⟨hv, _⟩ | ⟨g, cap, cur, fz, hv, _⟩
    · exact ⟨_, _, _, hv⟩
    · exact ⟨_, _, _, hv⟩
  go_wp2
  go_ret2
  refine ⟨by first | rfl | (rw [hsl]; rfl), .pointer (some ⟨b, 0, none⟩), _, ?_, .inr rfl, ?_, ?_, hnb, ?_⟩
  · simp [World.setCell, Array.getElem?_modify, hb2]
  · rw [List.length_append]
    refine ownsRowF_ext (fun k hk => Below.heap_setCell _ _ _ _ (fun e => hnb ?_)) hown'
    have : blk (Value.slice ao n' cap) = some k := by simpa [blkL] using hk
    rw [this]; exact congrArg some e
  · intro g hg
    rcases hblk g hg with h | h
    · exact .inl (by omega)
    · exact .inr h
  · refine ⟨hgrow.os.trans ho1, hgrow.tape.trans ht1, hgrow.output.trans hu1, ?_, ?_⟩
    · have := hgrow.size
      simp [World.setCell]; omega
    · intro k hk hnk
      have h1 : k ≠ b := fun e => hnk (.inl e)
      have h2 : blk v ≠ some k := fun e => hnk (.inr e)
      have e1 := Below.heap_setCell w2 ⟨b, 1, none⟩ (.slice ao n' cap) k (fun e => h1 e)
      rw [e1, hgrow.block k (by omega) (fun e => h2 (by first | exact e.symm | (rw [← hob]; exact e.symm)))]
      exact hk1 k h1

theorem bld_same {w w' : World} {T e b : Nat} {p v : Value} {bs : List UInt8} (hb : w.heap[b]? = some (.cells #[p, v] T (0, 0))) (hp : p = .pointer none ∨ p = .pointer (some ⟨b, 0, none⟩)) (hown : w.ownsRowF 0 e 1 v bs.length (Lib.byteCells bs)) (hne : blk v ≠ some b) (h : Below w.heap.size w w') : BldTo w w' T e b v bs := by
  have hlt : b < w.heap.size := (Array.getElem?_eq_some_iff.1 hb).1
  exact ⟨p, v, by rw [h.block b hlt]; exact hb, hp, ownsRowF_ext (fun k hk => h.block k (blk_lt hown (by simpa [blkL] using hk))) hown, fun g hg => .inr hg, hne, Chg.of_below h⟩

set_option maxHeartbeats 2000000 in
set_option maxRecDepth 100000 in
theorem bld_noroom (L : Lays.n169 P ρ) (X : Builder.Extra P ρ) {b g : Nat} {p : Value} {cur : Array Value} {w : World} {fz : Nat × Nat} (hbk : w.heap[b]? = some (.cells #[p, .slice (some ⟨g, 0, none⟩) 0 0] (ρ.t 72) (0, 0))) (hg : w.heap[g]? = some (.cells cur (ρ.t 5) fz)) :
    Calls P (ρ.f 169) #[.pointer (some ⟨b, 0, none⟩)] w fun e w' => e = .returned (.string ⟨#[]⟩) ∧ Below w.heap.size w w' := by
  have hUS := Any.unsafeString_none L X
  have hlt : b < w.heap.size := (Array.getElem?_eq_some_iff.1 hbk).1
  have c1 : w.drew.cell? ⟨b, 1, none⟩ = some (.slice (some ⟨g, 0, none⟩) 0 0) := by
    have : w.drew.heap[b]? = some (.cells #[p, .slice (some ⟨g, 0, none⟩) 0 0] (ρ.t 72) (0, 0)) := hbk
    rw [Lib.cell_of_heap this]; rfl
  have hSD : (Builtin.unsafeSliceData_ #[(ρ.t 37)] (ρ.t 127) #[.slice (some ⟨g, 0, none⟩) 0 0]).run P w.drew = .ok (.pointer (some ⟨w.drew.heap.size, 0, none⟩)) (w.drew.alloc (.view ⟨g, 0, none⟩ (ρ.t 5))) :=
    Lib.run_unsafeSliceData_zero w.drew _ _ (ρ.t 5) L.t127 ⟨g, 0, none⟩ 0 ((ρ.t 5), cur.size) (by have hg' : w.drew.heap[g]? = some (.cells cur (ρ.t 5) fz) := hg; simp [World.shape?, hg'])
  have c2 : (w.drew.alloc (.view ⟨g, 0, none⟩ (ρ.t 5))).cell? ⟨b, 1, none⟩ = some (.slice (some ⟨g, 0, none⟩) 0 0) := by
    have : (w.drew.alloc (.view ⟨g, 0, none⟩ (ρ.t 5))).heap[b]? = _ := (Lib.alloc_old w.drew _ b hlt).trans hbk
    rw [Lib.cell_of_heap this]; rfl
  have c3 : (w.alloc (.view ⟨g, 0, none⟩ (ρ.t 5))).drew.cell? ⟨b, 1, none⟩ = some (.slice (some ⟨g, 0, none⟩) 0 0) := c2
  have c0 : w.cell? ⟨b, 1, none⟩ = some (.slice (some ⟨g, 0, none⟩) 0 0) := c1
  have mixed := L.mixed
  have t72 := L.t72; have a72 := L.a72; have z72 := L.z72; have v72 := L.v72; have u72 := run_underlying L.t72
  have t70 := L.t70; have a70 := L.a70; have z70 := L.z70; have v70 := L.v70; have u70 := run_underlying L.t70
  have t37 := L.t37; have a37 := L.a37; have z37 := L.z37; have v37 := L.v37; have u37 := run_underlying L.t37
  have t127 := L.t127; have a127 := L.a127; have z127 := L.z127; have v127 := L.v127; have u127 := run_underlying L.t127
  have t3 := L.t3; have a3 := L.a3; have z3 := L.z3; have v3 := L.v3; have u3 := run_underlying L.t3
  have t9 := L.t9; have a9 := L.a9; have z9 := L.z9; have v9 := L.v9; have u9 := run_underlying L.t9
  have t5 := X.t5; have a5 := X.a5; have z5 := X.z5; have v5 := X.v5; have u5 := run_underlying X.t5
  go_enter L.f169, Body.n169_ntmps ρ
  go_wp2
  go_region_o
  all_goals (go_wp2; go_ret; exact ⟨rfl, (Below.drew (Below.refl _ w)).alloc (Nat.le_refl _) _⟩)

theorem bld_frozen {w : World} {T e b g cap : Nat} {p : Value} {bs : List UInt8} (hb : w.heap[b]? = some (.cells #[p, .slice (some ⟨g, 0, none⟩) bs.length cap] T (0, 0))) (hp : p = .pointer none ∨ p = .pointer (some ⟨b, 0, none⟩)) (hown : w.ownsRowF 0 e 1 (.slice (some ⟨g, 0, none⟩) bs.length cap) bs.length (Lib.byteCells bs)) (hne : g ≠ b) :
    BldTo w (w.drew.freeze ⟨g, 0, none⟩ bs.length) T e b (.slice (some ⟨g, 0, none⟩) bs.length cap) bs := by
  have hA : Lib.BuilderAtF T e 0 b p (Lib.byteCells bs) w.drew := ⟨Nat.zero_le _, _, hb, by rw [Lib.byteCells_length]; exact hown, by simpa [Value.ownBlock] using hne⟩
  have c1 : w.drew.cell? ⟨b, 1, none⟩ = some (.slice (some ⟨g, 0, none⟩) (Lib.byteCells bs).length cap) := by
    have : w.drew.heap[b]? = some (.cells #[p, .slice (some ⟨g, 0, none⟩) bs.length cap] T (0, 0)) := hb
    rw [Lib.cell_of_heap this, Lib.byteCells_length]; rfl
  obtain ⟨_, v0, h1, h2, h3⟩ := hA.froze (g := g) (cap := cap) c1
  rw [Lib.byteCells_length] at h1 h2
  have hz : (w.drew.freeze ⟨g, 0, none⟩ bs.length).heap[b]? = w.heap[b]? := by
    unfold World.freeze
    split
    · rfl
    · simp only [Array.getElem?_modify]
      rw [if_neg hne]; rfl
  have hv : v0 = .slice (some ⟨g, 0, none⟩) bs.length cap := by
    rw [hz, hb] at h1
    simp at h1
    exact h1.symm
  subst hv
  refine ⟨p, _, h1, hp, h2, fun k hk => .inr hk, by simpa [blk] using hne, by unfold World.freeze; split <;> rfl, by unfold World.freeze; split <;> rfl, by unfold World.freeze; split <;> rfl, ?_, fun k hk hnk => ?_⟩
  · unfold World.freeze; split
    · exact Nat.le_refl _
    · simp only [Array.size_modify]; exact Nat.le_refl _
  · have hkg : g ≠ k := fun e => hnk (.inr (by rw [← e]; rfl))
    unfold World.freeze
    split
    · rfl
    · simp only [Array.getElem?_modify]
      rw [if_neg hkg]; rfl

set_option maxHeartbeats 2000000 in
set_option maxRecDepth 100000 in
theorem bld_string (L : Lays.n169 P ρ) (X : Builder.Extra P ρ) {b : Nat} {p v : Value} {bs : List UInt8} {w : World} (hb : w.heap[b]? = some (.cells #[p, v] (ρ.t 72) (0, 0))) (hp : p = .pointer none ∨ p = .pointer (some ⟨b, 0, none⟩))
    (hown : w.ownsRowF 0 (ρ.t 5) 1 v bs.length (Lib.byteCells bs)) (hne : blk v ≠ some b) :
    Calls P (ρ.f 169) #[.pointer (some ⟨b, 0, none⟩)] w fun e w' => e = .returned (.string ⟨bs.toArray⟩) ∧ BldTo w w' (ρ.t 72) (ρ.t 5) b v bs := by
  by_cases h0 : bs = []
  · subst h0
    have fin : ∀ (e : Ending) (w' : World), (e = .returned (.string ⟨#[]⟩) ∧ Below w.heap.size w w') → e = .returned (.string ⟨([] : List UInt8).toArray⟩) ∧ BldTo w w' (ρ.t 72) (ρ.t 5) b v [] := fun e w' h => ⟨h.1, bld_same hb hp hown hne h.2⟩
    rcases hown.2 with ⟨rfl, _⟩ | ⟨g, cap, cur, fz, rfl, _, hg, _⟩
    · exact (Any.Builder_String_nil L X w.heap.size b p w hb).mono fin
    · by_cases hc : cap = 0
      · subst hc
        exact (bld_noroom L X hb hg).mono fin
      · exact (Any.Builder_String_room L X w.heap.size b g cap p w hc hb).mono fin
  · have hl0 : bs.length ≠ 0 := by simpa using h0
    obtain ⟨g, cap, cur, fz, rfl, hbg, hg, hfz, hnc, hcm, hcs, htake⟩ : ∃ g cap cur fz, v = .slice (some ⟨g, 0, none⟩) bs.length cap ∧ 0 ≤ g ∧ w.heap[g]? = some (.cells cur (ρ.t 5) fz) ∧ fz.2 ≤ bs.length * 1 ∧ bs.length ≤ cap ∧ cap ≤ maxLen ∧ cur.size = cap * 1 ∧ cur.toList.take (bs.length * 1) = Lib.byteCells bs := by
      rcases hown.2 with ⟨_, hz⟩ | ⟨g, cap, cur, fz, hv, r⟩
      · exact absurd hz hl0
      · exact ⟨g, cap, cur, fz, hv, r⟩
    have hfin := bld_frozen hb hp hown (fun e => hne (by rw [← e]; rfl))
    have c1 : w.drew.cell? ⟨b, 1, none⟩ = some (.slice (some ⟨g, 0, none⟩) bs.length cap) := by
      have : w.drew.heap[b]? = some (.cells #[p, .slice (some ⟨g, 0, none⟩) bs.length cap] (ρ.t 72) (0, 0)) := hb
      rw [Lib.cell_of_heap this]; rfl
    have hSD : (Builtin.unsafeSliceData_ #[(ρ.t 37)] (ρ.t 127) #[.slice (some ⟨g, 0, none⟩) bs.length cap]).run P w.drew = .ok (.pointer (some ⟨g, 0, none⟩)) w.drew :=
      Lib.run_unsafeSliceData_row _ _ _ _ _ _ (by omega)
    have hUS : (Builtin.unsafeString_ #[(ρ.t 127), (ρ.t 3)] (ρ.t 9) #[.pointer (some ⟨g, 0, none⟩), .int .i64 bs.length]).run P w.drew = .ok (.string ⟨bs.toArray⟩) (w.drew.freeze ⟨g, 0, none⟩ bs.length) := by
      refine Lib.run_unsafeString_row w.drew (ρ.t 127) (ρ.t 3) (ρ.t 9) (ρ.t 5) L.t127 X.cellsByte g cur.size (by have hg' : w.drew.heap[g]? = some (.cells cur (ρ.t 5) fz) := hg; simp [World.shape?, hg']) bs h0 (by omega) (by unfold maxLen at hcm; omega) ?_
      intro j x hx
      have := hown.cells (g := g) rfl j (.int .u8 x.toNat) (by simp [Lib.byteCells, hx])
      exact this
    have mixed := L.mixed
    have t72 := L.t72; have a72 := L.a72; have z72 := L.z72; have v72 := L.v72; have u72 := run_underlying L.t72
    have t70 := L.t70; have a70 := L.a70; have z70 := L.z70; have v70 := L.v70; have u70 := run_underlying L.t70
    have t37 := L.t37; have a37 := L.a37; have z37 := L.z37; have v37 := L.v37; have u37 := run_underlying L.t37
    have t127 := L.t127; have a127 := L.a127; have z127 := L.z127; have v127 := L.v127; have u127 := run_underlying L.t127
    have t3 := L.t3; have a3 := L.a3; have z3 := L.z3; have v3 := L.v3; have u3 := run_underlying L.t3
    have t9 := L.t9; have a9 := L.a9; have z9 := L.z9; have v9 := L.v9; have u9 := run_underlying L.t9
    have t5 := X.t5; have a5 := X.a5; have z5 := X.z5; have v5 := X.v5; have u5 := run_underlying X.t5
    go_enter L.f169, Body.n169_ntmps ρ
    go_wp2
    go_region_o
    all_goals (go_wp2; go_ret; exact ⟨rfl, hfin⟩)
end

theorem bldX166 : Builder.Extra Tryz.prog Tryz.lays166_ren where
  sizeBuilder := by kernel_rfl
  liesBuilder := by kernel_rfl
  t5 := Tryz.underlying5
  a5 := Tryz.isAgg5
  z5 := Tryz.sizeOf5
  v5 := Tryz.zeroValue5
  infoByte := by kernel_rfl
  cellsByte := by kernel_rfl
  sizeByte := by kernel_rfl
  neB5 := by decide
theorem bldX169 : Builder.Extra Tryz.prog Tryz.lays169_ren where
  sizeBuilder := by kernel_rfl
  liesBuilder := by kernel_rfl
  t5 := Tryz.underlying5
  a5 := Tryz.isAgg5
  z5 := Tryz.sizeOf5
  v5 := Tryz.zeroValue5
  infoByte := by kernel_rfl
  cellsByte := by kernel_rfl
  sizeByte := by kernel_rfl
  neB5 := by decide

def m_strings_Builder_WriteString (b s : List UInt8) : Option (Int × List UInt8) := if b.length + s.length ≤ 137438953472 then some ((s.length : Int), b ++ s) else none
def m_strings_Builder_Len (b : List UInt8) : Option (Int × List UInt8) := some ((b.length : Int), b)
def m_strings_Builder_String (b : List UInt8) : Option (List UInt8 × List UInt8) := some (b, b)

theorem has_nil (w : World) (M : Nat → Prop) (vs : List Value) (F : List Nat) (h : RepGL w M κ0 (([] : List DV).map .d) vs F) : vs = [] ∧ F = [] := by
  simpa [RepGL] using h
theorem has_nil' (w : World) (M : Nat → Prop) : RepGL w M κ0 (([] : List DV).map .d) [] [] := by simp [RepGL]
theorem has_str (s : List UInt8) (w : World) (M : Nat → Prop) (vs : List Value) (F : List Nat) (h : RepGL w M κ0 (([.str s] : List DV).map .d) vs F) : vs = [.string ⟨s.toArray⟩] ∧ F = [] := by
  simp only [List.map_cons, List.map_nil, RepGL, RepG, RepS, Rep] at h
  obtain ⟨u, us, F1, F2, rfl, rfl, ⟨rfl, rfl⟩, rfl, rfl⟩ := h
  exact ⟨rfl, rfl⟩
theorem has_str' (s : List UInt8) (w : World) (M : Nat → Prop) : RepGL w M κ0 (([.str s] : List DV).map .d) [.string ⟨s.toArray⟩] [] := by
  simp only [List.map_cons, List.map_nil, RepGL, RepG, RepS, Rep]
  exact ⟨_, _, [], [], rfl, rfl, ⟨rfl, rfl⟩, rfl, rfl⟩

theorem spec_strings_Builder_WriteString (x0 x1 : List UInt8) : ∀ r, m_strings_Builder_WriteString x0 x1 = some r → FSpec Tryz.prog 31 (.own (.bld 68 5) (.str x0) :: List.map SV.d ([.str x1] : List DV)) (.tup [.d (.int .i64 r.1), .d (.raw .nilIface)]) (.own (.bld 68 5) (.str r.2) :: List.map SV.d ([.str x1] : List DV)) := by
  intro r hr
  unfold m_strings_Builder_WriteString at hr
  split at hr
  · rename_i hlen
    cases hr
    refine bld_fspec (by kernel_rfl) (has_str x1) (has_str' x1) (u := .tuple #[.int .i64 x1.length, .nilIface]) (fun w M => ?_) (fun w b p v h1 h2 h3 h4 => bld_write Tryz.lays166 bldX166 h1 h2 h3 h4 (by omega))
    unfold RepG
    refine ⟨[.int .i64 x1.length, .nilIface], rfl, ?_⟩
    simp only [RepGL, RepG, RepS, Rep]
    exact ⟨_, _, [], [], rfl, rfl, ⟨rfl, rfl⟩, _, _, [], [], rfl, rfl, ⟨rfl, rfl⟩, rfl, rfl⟩
  · cases hr
theorem spec_strings_Builder_String (x0 : List UInt8) : ∀ r, m_strings_Builder_String x0 = some r → FSpec Tryz.prog 34 (.own (.bld 68 5) (.str x0) :: List.map SV.d ([] : List DV)) (.d (.str r.1)) (.own (.bld 68 5) (.str r.2) :: List.map SV.d ([] : List DV)) := by
  intro r hr
  cases hr
  exact bld_fspec (by kernel_rfl) has_nil has_nil' (u := .string ⟨x0.toArray⟩) (fun w M => by unfold RepG RepS Rep; exact ⟨rfl, rfl⟩) (fun w b p v h1 h2 h3 h4 => bld_string Tryz.lays169 bldX169 h1 h2 h3 h4)
theorem spec_strings_Builder_Len (x0 : List UInt8) : ∀ r, m_strings_Builder_Len x0 = some r → FSpec Tryz.prog 33 (.own (.bld 68 5) (.str x0) :: List.map SV.d ([] : List DV)) (.d (.int .i64 r.1)) (.own (.bld 68 5) (.str r.2) :: List.map SV.d ([] : List DV)) := by
  intro r hr
  cases hr
  refine bld_fspec (by kernel_rfl) has_nil has_nil' (u := .int .i64 x0.length) (fun w M => by unfold RepG RepS Rep; exact ⟨rfl, rfl⟩) (fun w b p v h1 h2 h3 h4 => ?_)
  have hB : Lib.IsBuilderF 68 5 0 b (Lib.byteCells x0) w := by
    have := blk_own v h3
    have hA : ∀ q, p = q → Lib.BuilderAtF 68 5 0 b q (Lib.byteCells x0) w := fun q hq => ⟨Nat.zero_le _, v, by rw [← hq]; exact h1, by rw [Lib.byteCells_length]; exact h3, by rw [this]; exact h4⟩
    rcases h2 with h | h
    · exact .inl (hA _ h)
    · exact .inr (hA _ h)
  refine (Any.Builder_Len_f Tryz.lays170 0 b _ w hB).mono ?_
  rintro e w' ⟨rfl, rfl⟩
  exact ⟨by rw [Lib.byteCells_length], bld_same h1 h2 h3 h4 (Below.refl _ _)⟩

section
variable {P : Program} {K : St → Prop} {sos : List SO} {s : Nat → SV} {h : Nat → Ch}
/-- A call to which a builder is handed. -/
theorem O_pB {Y R : Type} {r : R} {a : Option Y} {k : Y → Option R} {dst f id T e : Nat} {args : List SX} {E : Y → SV} {G : Y → List UInt8} {ci : List UInt8} {as0 az : List DV} {gs : List SV}
    (hm : a.bind k = some r) (hx : args.map (ev s) = .ref id 0 :: gs) (hgs : SV.toDVs gs = some as0) (hh : h id = .bld T e ci)
    (hs : ∀ y, a = some y → FSpec P f (.own (.bld T e) (.str ci) :: az.map .d) (E y) (.own (.bld T e) (.str (G y)) :: az.map .d)) (he : as0 = az) (henc : ∀ y, (E y).closed = true ∧ (E y).nOwn = 0)
    (hk : ∀ y, k y = some r → AOps P K sos ⟨upd s dst (E y), upd h id (.bld T e (G y))⟩) : AOps P K (.p (some dst) (.f f) args :: sos) ⟨s, h⟩ := by
  subst he
  cases hy : a with
  | none => rw [hy] at hm; cases hm
  | some y =>
    rw [hy] at hm
    obtain ⟨c1, c2⟩ := henc y
    refine O_p (σ1 := ⟨s, h⟩) (L := [(id, .bld T e (G y))]) (Imp.refl _) (hs y hy) c1 ?_ (s' := upd s dst (E y)) (h' := upd h id (.bld T e (G y))) ?_ (hk y hm)
    · rw [hx]
      exact .ptr (ch := .bld T e ci) (mk := fun id => .ref id 0) (ch' := .bld T e (G y)) (mk' := fun id => .ref id 0) rfl (by simp only [shapeOk]) rfl hh (by simp) (hand_data hgs)
    · simp only [takes, c2, if_true, updL]
/-- A new builder. -/
theorem O_bld {dst T e : Nat} (hk : AOps P K sos ⟨upd (repS dst .any s) dst (.ref dst 0), upd (repH dst .any h) dst (.bld T e [])⟩) : AOps P K (.w dst (.bldM T e) :: sos) ⟨s, h⟩ :=
  O_w (p := True) (by simp only [wr, St.swap]) trivial hk
end
end Go.Proofs.YtdkncdkdbddgoaaGreatDoor

/-
  Bodies of functions and what they compute, printed by programs of mine (wip/tool/gen.py, sc.py) out of the translation; the kernel holds each against the translation.
-/
namespace Go.Proofs.YtdkncdkdbddgoaaGreatDoor
open Go.RowKit
set_option linter.unusedSimpArgs false
set_option linter.unusedVariables false
structure Tapi_Record where
  fTime : Int
  fKind : List UInt8
  fKey : List UInt8
  fDigest : List UInt8
  fDropped : Bool
  fText : List UInt8
  deriving DecidableEq
def rTapi_Record (x : Tapi_Record) : List DV := [.int .i64 x.fTime, .str x.fKind, .str x.fKey, .str x.fDigest, .bool x.fDropped, .str x.fText]
attribute [push_cast] rTapi_Record
theorem fT_Tapi_Record {d0 d1 d2 d3 d4 d5 : DV} {v0 : Int} {v1 : List UInt8} {v2 : List UInt8} {v3 : List UInt8} {v4 : Bool} {v5 : List UInt8} (h0 : d0 = .int .i64 v0) (h1 : d1 = .str v1) (h2 : d2 = .str v2) (h3 : d3 = .str v3) (h4 : d4 = .bool v4) (h5 : d5 = .str v5) : [d0, d1, d2, d3, d4, d5] = rTapi_Record ⟨v0, v1, v2, v3, v4, v5⟩ := by unfold rTapi_Record; simp only [h0, h1, h2, h3, h4, h5, List.cons_append, List.nil_append, List.append_assoc, List.append_nil]
theorem cT_Tapi_Record {d0 d1 d2 d3 d4 d5 : SV} {v0 : Int} {v1 : List UInt8} {v2 : List UInt8} {v3 : List UInt8} {v4 : Bool} {v5 : List UInt8} (h0 : svle d0 (.d (.int .i64 v0))) (h1 : svle d1 (.d (.str v1))) (h2 : svle d2 (.d (.str v2))) (h3 : svle d3 (.d (.str v3))) (h4 : svle d4 (.d (.bool v4))) (h5 : svle d5 (.d (.str v5))) : cellsle [d0, d1, d2, d3, d4, d5] (dR (rTapi_Record ⟨v0, v1, v2, v3, v4, v5⟩)) := by have h := (cellsle.append (cellsle.consS h0 cellsle.nil) (cellsle.append (cellsle.consS h1 cellsle.nil) (cellsle.append (cellsle.consS h2 cellsle.nil) (cellsle.append (cellsle.consS h3 cellsle.nil) (cellsle.append (cellsle.consS h4 cellsle.nil) (cellsle.consS h5 cellsle.nil)))))); simpa only [rTapi_Record, dR, List.map_append, List.map_cons, List.map_nil, List.cons_append, List.nil_append, List.append_assoc, List.append_nil] using h
theorem eT_Tapi_Record {d0 d1 d2 d3 d4 d5 : SV} {v0 : Int} {v1 : List UInt8} {v2 : List UInt8} {v3 : List UInt8} {v4 : Bool} {v5 : List UInt8} (h0 : d0 = .d (.int .i64 v0)) (h1 : d1 = .d (.str v1)) (h2 : d2 = .d (.str v2)) (h3 : d3 = .d (.str v3)) (h4 : d4 = .d (.bool v4)) (h5 : d5 = .d (.str v5)) : [d0, d1, d2, d3, d4, d5] = dR (rTapi_Record ⟨v0, v1, v2, v3, v4, v5⟩) := by simp only [rTapi_Record, dR, List.map_append, List.map_cons, List.map_nil, List.cons_append, List.nil_append, List.append_assoc, List.append_nil, h0, h1, h2, h3, h4, h5]

/-- interchange/kit.Outside -/
def sc_kit_Outside : SC :=
  (.seq (.reg [.r 6 (.mv (.c (.d (.bool false))))])
  (.seq (.reg (.r 7 (.mv (.t 0)) :: .r 8 (.mv (.t 1)) :: .r 9 (.bin .lss (.t 7) (.t 8)) :: .r 10 (.mv (.t 9)) :: gapp [11, 12, 13] 10 false (.r 11 (.mv (.t 0)) :: .r 12 (.mv (.t 2)) :: .r 13 (.bin .gtr (.t 11) (.t 12)) :: []) (.r 14 (.pick (.t 10) (.c (.d (.bool true))) (.t 13)) :: .r 6 (.mv (.t 14)) :: [])))
  .ret))
theorem fit_kit_Outside : fits Tryz.prog 44 Tryz.f44 sc_kit_Outside [.t 6] 3 = true := by kernel_rfl

set_option maxRecDepth 100000 in
set_option maxHeartbeats 40000000 in
noncomputable def sims_G1_0_0 : (∀ (x0 : Int) (x1 : Int) (x2 : Int), {m : Option (Bool) // ∀ r, m = some r → PureSpec Tryz.prog 44 [.int .i64 x0, .int .i64 x1, .int .i64 x2] (.bool r)}) := by
  (intro x0 x1 x2; apply Subtype.mk; intro r hm; apply pure_walk Tryz.func44 fit_kit_Outside; unfold sc_kit_Outside)
  repeat' (first | with_reducible refine W_seq ?_ | with_reducible refine W_reg ?_ | with_reducible refine W_block ?_ | with_reducible refine W_skip ?_ | with_reducible refine W_ret ?_ | with_reducible refine W_exit ?_ | with_reducible refine O_nil ?_ | with_reducible refine K_seq ?_ | with_reducible refine K_seqE ?_ | with_reducible refine K_seqR ?_ | with_reducible refine K_block ?_ | with_reducible refine K_blockR ?_ | with_reducible refine K_blockE ?_ | ((with_reducible apply K_blockN); decide) | ((with_reducible apply O_r); (simp only [push_cast, seval]; rfl); (first | exact trivial | omega)) | ((with_reducible apply O_or hm); (simp only [push_cast, seval]; rfl); rfl; intro v hm; rotate_left; intro v g hm) | ((with_reducible apply W_condT); (focus (simp only [push_cast, seval]; done))) | ((with_reducible apply W_condF); (focus (simp only [push_cast, seval]; done))) | ((with_reducible apply S_condB hm); (simp only [push_cast, seval]; rfl); intro hm; rotate_left; intro hm) | ((with_reducible apply K_endS hm); (focus (simp only [resOf, resL, RV.get, push_cast, seval]; rfl)); (focus ((repeat' (first | rfl | (with_reducible first | apply f_optN | apply f_optS | apply f_some | apply f_tup | apply f_agg | apply f_ptr | apply f_fn | apply dv_slice | apply sv_d | apply f_cons | apply fold_nil | apply fold_cons | apply fold_app | apply f_rowI | apply f_rowY | apply f_rowS | apply f_rowB | apply f_rowL) | (with_reducible apply f_byte; decide))); done))) | ((with_reducible apply K_bool hm); (simp only [push_cast, seval]; rfl)))
noncomputable def m_kit_Outside (x0 : Int) (x1 : Int) (x2 : Int) : Option (Bool) := (sims_G1_0_0 x0 x1 x2).1
theorem spec_kit_Outside (x0 : Int) (x1 : Int) (x2 : Int) : ∀ r, m_kit_Outside x0 x1 x2 = some r → PureSpec Tryz.prog 44 [.int .i64 x0, .int .i64 x1, .int .i64 x2] (.bool r) := (sims_G1_0_0 x0 x1 x2).2

/-- interchange/kit.IsName -/
def sc_kit_IsName : SC :=
  (.seq (.reg [.r 2 (.mv (.c (.d (.bool false))))])
  (.seq (.seq (.reg (.r 3 (.mv (.t 0)) :: .r 4 (.lenT (.t 3)) :: .r 5 (.bin .lss (.t 4) (.c (.d (.int .i64 1)))) :: .r 6 (.mv (.t 5)) :: gapp [7, 8, 9] 6 false (.r 7 (.mv (.t 0)) :: .r 8 (.lenT (.t 7)) :: .r 9 (.bin .gtr (.t 8) (.c (.d (.int .i64 40)))) :: []) (.r 10 (.pick (.t 6) (.c (.d (.bool true))) (.t 9)) :: .r 11 (.mv (.t 10)) :: gapp [12, 13, 14] 11 false (.r 12 (.mv (.t 0)) :: .r 13 (.sidx (.t 12) (.c (.d (.int .i64 0)))) :: .r 14 (.bin .lss (.t 13) (.c (.d (.int .u8 97)))) :: []) (.r 15 (.pick (.t 11) (.c (.d (.bool true))) (.t 14)) :: .r 16 (.mv (.t 15)) :: gapp [17, 18, 19] 16 false (.r 17 (.mv (.t 0)) :: .r 18 (.sidx (.t 17) (.c (.d (.int .i64 0)))) :: .r 19 (.bin .gtr (.t 18) (.c (.d (.int .u8 122)))) :: []) (.r 20 (.pick (.t 16) (.c (.d (.bool true))) (.t 19)) :: [])))))
  (.cond (.t 20)
    (.seq (.reg [.r 2 (.mv (.c (.d (.bool false))))])
    .ret)
    .skip))
  (.seq (.reg [.r 21 (.mv (.t 0)),
     .c 22 (.f 94) [.t 21, .c (.d (.str [97, 98, 99, 100, 101, 102, 103, 104, 105, 106, 107, 108, 109, 110, 111, 112, 113, 114, 115, 116, 117, 118, 119, 120, 121, 122, 48, 49, 50, 51, 52, 53, 54, 55, 56, 57, 45]))],
     .r 23 (.bin .eql (.t 22) (.c (.d (.str [])))),
     .r 2 (.mv (.t 23))])
  .ret)))
theorem fit_kit_IsName : fits Tryz.prog 68 Tryz.f68 sc_kit_IsName [.t 2] 1 = true := by kernel_rfl

set_option maxRecDepth 100000 in
set_option maxHeartbeats 40000000 in
noncomputable def sims_G1_0_1 : (∀ (x0 : List UInt8), {m : Option (Bool) // ∀ r, m = some r → PureSpec Tryz.prog 68 [.str x0] (.bool r)}) := by
  (intro x0; apply Subtype.mk; intro r hm; apply pure_walk Tryz.func68 fit_kit_IsName; unfold sc_kit_IsName)
  repeat' (first | with_reducible refine W_seq ?_ | with_reducible refine W_reg ?_ | with_reducible refine W_block ?_ | with_reducible refine W_skip ?_ | with_reducible refine W_ret ?_ | with_reducible refine W_exit ?_ | with_reducible refine O_nil ?_ | with_reducible refine K_seq ?_ | with_reducible refine K_seqE ?_ | with_reducible refine K_seqR ?_ | with_reducible refine K_block ?_ | with_reducible refine K_blockR ?_ | with_reducible refine K_blockE ?_ | ((with_reducible apply K_blockN); decide) | ((with_reducible apply O_sidxr hm); (iterate 2 (simp only [push_cast, seval]; rfl)); intro e hm) | ((with_reducible apply O_r); (simp only [push_cast, seval]; rfl); (first | exact trivial | omega)) | ((with_reducible apply O_or hm); (simp only [push_cast, seval]; rfl); rfl; intro v hm; rotate_left; intro v g hm) | ((with_reducible apply W_condT); (focus (simp only [push_cast, seval]; done))) | ((with_reducible apply W_condF); (focus (simp only [push_cast, seval]; done))) | ((with_reducible apply O_cF hm); (simp only [push_cast, seval]; rfl); (first | apply spec_strings_Trim _ _); (any_goals ((repeat' (first | rfl | (with_reducible first | apply f_optN | apply f_optS | apply f_some | apply f_tup | apply f_agg | apply f_ptr | apply f_fn | apply dv_slice | apply sv_d | apply f_cons | apply fold_nil | apply fold_cons | apply fold_app | apply f_rowI | apply f_rowY | apply f_rowS | apply f_rowB | apply f_rowL) | (with_reducible apply f_byte; decide))); done)); intro x hm) | ((with_reducible apply S_condB hm); (simp only [push_cast, seval]; rfl); intro hm; rotate_left; intro hm) | ((with_reducible apply K_endS hm); (focus (simp only [resOf, resL, RV.get, push_cast, seval]; rfl)); (focus ((repeat' (first | rfl | (with_reducible first | apply f_optN | apply f_optS | apply f_some | apply f_tup | apply f_agg | apply f_ptr | apply f_fn | apply dv_slice | apply sv_d | apply f_cons | apply fold_nil | apply fold_cons | apply fold_app | apply f_rowI | apply f_rowY | apply f_rowS | apply f_rowB | apply f_rowL) | (with_reducible apply f_byte; decide))); done))) | ((with_reducible apply K_bool hm); (simp only [push_cast, seval]; rfl)))
noncomputable def m_kit_IsName (x0 : List UInt8) : Option (Bool) := (sims_G1_0_1 x0).1
theorem spec_kit_IsName (x0 : List UInt8) : ∀ r, m_kit_IsName x0 = some r → PureSpec Tryz.prog 68 [.str x0] (.bool r) := (sims_G1_0_1 x0).2

def sc_kit_InBytes_L1 : SC :=
  (.seq (.reg [.r 11 (.bin .lss (.t 10) (.t 9))])
  (.seq (.cond (.t 11)
    .skip
    (.exit 0))
  (.seq (.block 1 (.seq (.reg [.r 12 (.mv (.t 10)),
       .r 7 (.mv (.t 12))])
    (.seq (.reg (.r 13 (.mv (.t 0)) :: .r 14 (.mv (.t 7)) :: .r 15 (.sidx (.t 13) (.t 14)) :: .r 16 (.mv (.t 1)) :: .r 17 (.bin .lss (.t 15) (.t 16)) :: .r 18 (.mv (.t 17)) :: gapp [19, 20, 21, 22, 23] 18 false (.r 19 (.mv (.t 0)) :: .r 20 (.mv (.t 7)) :: .r 21 (.sidx (.t 19) (.t 20)) :: .r 22 (.mv (.t 2)) :: .r 23 (.bin .gtr (.t 21) (.t 22)) :: []) (.r 24 (.pick (.t 18) (.c (.d (.bool true))) (.t 23)) :: [])))
    (.cond (.t 24)
      (.seq (.reg [.r 6 (.mv (.c (.d (.bool false))))])
      .ret)
      .skip))))
  (.reg [.r 25 (.bin .add (.t 10) (.c (.d (.int .i64 1)))),
     .r 10 (.mv (.t 25))]))))
def sc_kit_InBytes_B1 : SC := .block 0 (.loop sc_kit_InBytes_L1)
/-- interchange/kit.InBytes -/
def sc_kit_InBytes : SC :=
  (.seq (.reg [.r 6 (.mv (.c (.d (.bool false))))])
  (.seq (.seq (.reg [.r 8 (.mv (.t 0)),
     .r 9 (.lenT (.t 8)),
     .r 10 (.mv (.c (.d (.int .i64 0))))])
  sc_kit_InBytes_B1)
  (.seq (.reg [.r 6 (.mv (.c (.d (.bool true))))])
  .ret)))
theorem fit_kit_InBytes : fits Tryz.prog 62 Tryz.f62 sc_kit_InBytes [.t 6] 3 = true := by kernel_rfl

set_option maxRecDepth 100000 in
set_option maxHeartbeats 40000000 in
noncomputable def sims_G1_0_2 : (∀ (x0 : List UInt8) (x1 : UInt8) (x2 : UInt8), {m : Option (Bool) // ∀ r, m = some r → PureSpec Tryz.prog 62 [.str x0, .int .u8 (x1).toNat, .int .u8 (x2).toNat] (.bool r)}) := by
  (intro x0 x1 x2; apply Subtype.mk; intro r hm; apply pure_walk Tryz.func62 fit_kit_InBytes; unfold sc_kit_InBytes)
  repeat' (first | with_reducible refine W_seq ?_ | with_reducible refine W_reg ?_ | with_reducible refine W_block ?_ | with_reducible refine W_skip ?_ | with_reducible refine W_ret ?_ | with_reducible refine W_exit ?_ | with_reducible refine O_nil ?_ | with_reducible refine K_seq ?_ | with_reducible refine K_seqE ?_ | with_reducible refine K_seqR ?_ | with_reducible refine K_block ?_ | with_reducible refine K_blockR ?_ | with_reducible refine K_blockE ?_ | ((with_reducible apply K_blockN); decide) | ((with_reducible apply O_sidxr hm); (iterate 2 (simp only [push_cast, seval]; rfl)); intro e hm) | ((with_reducible apply O_r); (simp only [push_cast, seval]; rfl); (first | exact trivial | omega)) | ((with_reducible apply O_strr hm); (iterate 2 (simp only [push_cast, seval]; rfl)); intro hm) | ((with_reducible apply O_or hm); (simp only [push_cast, seval]; rfl); rfl; intro v hm; rotate_left; intro v g hm) | ((with_reducible apply W_condT); (focus (simp only [push_cast, seval]; done))) | ((with_reducible apply W_condF); (focus (simp only [push_cast, seval]; done))) | ((with_reducible apply S_condB hm); (simp only [push_cast, seval]; rfl); intro hm; rotate_left; intro hm) | ((with_reducible apply K_endS hm); (focus (simp only [resOf, resL, RV.get, push_cast, seval]; rfl)); (focus ((repeat' (first | rfl | (with_reducible first | apply f_optN | apply f_optS | apply f_some | apply f_tup | apply f_agg | apply f_ptr | apply f_fn | apply dv_slice | apply sv_d | apply f_cons | apply fold_nil | apply fold_cons | apply fold_app | apply f_rowI | apply f_rowY | apply f_rowS | apply f_rowB | apply f_rowL) | (with_reducible apply f_byte; decide))); done))) | ((with_reducible apply K_bool hm); (simp only [push_cast, seval]; rfl)) | ((with_reducible apply K_leave hm); intro r hm) | ((with_reducible apply K_leaveR hm); intro r hm) | ((apply S_loopY (b := 0) (X := sc_kit_InBytes_B1) (x := sc_kit_InBytes_L1) rfl (fun (c : SV × SV × SV × SV) (s : Int) => st [(0, c.1), (1, c.2.1), (2, c.2.2.1), (9, c.2.2.2), (10, .d (.int .i64 s))] []) (c := (_, _, _, _)) (s0 := _) hm); (focus (first | (dsimp only; done) | (dsimp only; rfl) | rfl)); (with_reducible refine Then.mk ?_ ?_)) | ((apply K_next (s' := _) hm); (focus (first | (dsimp only; done) | (dsimp only; rfl) | rfl))) | ((apply K_brk (s' := _) hm); (focus (first | (dsimp only; done) | (dsimp only; rfl) | rfl))) | (((with_reducible apply K_brkN hm); (focus decide); intro r hm)) | (((with_reducible apply K_brkR hm); intro r hm)) | (((with_reducible apply LoopB.of); (focus (first | (dsimp only; done) | (dsimp only; rfl) | rfl)); (focus ((intro _; repeat' (first | with_reducible exact impC_end | with_reducible exact impC_endF | with_reducible refine impC_seq ?_ | with_reducible refine impC_block ?_ | ((with_reducible refine impC_rnd ?_); intro _) | ((with_reducible refine impC_brk ?_); intro _))))); (intro s o hm; first | unfold sc_kit_InBytes_L1); rotate_left; intro s hm)) | (((apply imp_stT; (repeat' (first | with_reducible exact keepT_nil | with_reducible exact keepC_nil | with_reducible apply keepT_cons | with_reducible apply keepC_cons | ((with_reducible apply svle_eq); (focus (first | (simp only [push_cast, seval]; rfl) | rfl)); (focus ((repeat' (first | rfl | (with_reducible first | apply f_optN | apply f_optS | apply f_some | apply f_tup | apply f_agg | apply f_ptr | apply f_fn | apply dv_slice | apply sv_d | apply f_cons | apply fold_nil | apply fold_cons | apply fold_app | apply f_rowI | apply f_rowY | apply f_rowS | apply f_rowB | apply f_rowL) | (with_reducible apply f_byte; decide))); done))) | ((with_reducible apply svle_td); (focus (first | (simp only [push_cast, seval]; rfl) | rfl)); (focus (first | (simp only [push_cast, seval]; rfl) | rfl)); (focus ((repeat' (first | rfl | (with_reducible first | apply f_optN | apply f_optS | apply f_some | apply f_tup | apply f_agg | apply f_ptr | apply f_fn | apply dv_slice | apply sv_d | apply f_cons | apply fold_nil | apply fold_cons | apply fold_app | apply f_rowI | apply f_rowY | apply f_rowS | apply f_rowB | apply f_rowL) | (with_reducible apply f_byte; decide))); done))) | ((with_reducible apply chle_eq); (focus (first | (simp only [push_cast, seval]; rfl) | rfl)); (first | with_reducible exact chle_rfl rfl | with_reducible exact chle_map0 | with_reducible apply chle_vec | with_reducible apply chle_box)) | (with_reducible first | apply r_shS | apply r_shI | apply r_rflO | apply r_oneO | apply r_appO | apply r_nilO | apply c_ownN | apply c_ownL | apply vc_rfl | apply vc_nil | apply vc_cons | apply r_rfl | apply r_rows | apply r_nil | apply r_app | apply r_cons | apply c_rowI | apply c_rowY | apply c_rowS | apply c_rowB | apply c_rowL))); done))))
noncomputable def m_kit_InBytes (x0 : List UInt8) (x1 : UInt8) (x2 : UInt8) : Option (Bool) := (sims_G1_0_2 x0 x1 x2).1
theorem spec_kit_InBytes (x0 : List UInt8) (x1 : UInt8) (x2 : UInt8) : ∀ r, m_kit_InBytes x0 x1 x2 = some r → PureSpec Tryz.prog 62 [.str x0, .int .u8 (x1).toNat, .int .u8 (x2).toNat] (.bool r) := (sims_G1_0_2 x0 x1 x2).2

/-- interchange/desk.isDigest -/
def sc_desk_isDigest : SC :=
  (.seq (.reg [.r 2 (.mv (.c (.d (.bool false))))])
  (.seq (.reg (.r 3 (.mv (.t 0)) :: .r 4 (.lenT (.t 3)) :: .r 5 (.bin .eql (.t 4) (.c (.d (.int .i64 16)))) :: .r 6 (.mv (.t 5)) :: gapp [7, 8, 9] 6 true (.r 7 (.mv (.t 0)) :: .c 8 (.f 94) [.t 7, .c (.d (.str [48, 49, 50, 51, 52, 53, 54, 55, 56, 57, 97, 98, 99, 100, 101, 102]))] :: .r 9 (.bin .eql (.t 8) (.c (.d (.str [])))) :: []) (.r 10 (.pick (.t 6) (.t 9) (.c (.d (.bool false)))) :: .r 2 (.mv (.t 10)) :: [])))
  .ret))
theorem fit_desk_isDigest : fits Tryz.prog 82 Tryz.f82 sc_desk_isDigest [.t 2] 1 = true := by kernel_rfl

set_option maxRecDepth 100000 in
set_option maxHeartbeats 40000000 in
noncomputable def sims_G1_0_3 : (∀ (x0 : List UInt8), {m : Option (Bool) // ∀ r, m = some r → PureSpec Tryz.prog 82 [.str x0] (.bool r)}) := by
  (intro x0; apply Subtype.mk; intro r hm; apply pure_walk Tryz.func82 fit_desk_isDigest; unfold sc_desk_isDigest)
  repeat' (first | with_reducible refine W_seq ?_ | with_reducible refine W_reg ?_ | with_reducible refine W_block ?_ | with_reducible refine W_skip ?_ | with_reducible refine W_ret ?_ | with_reducible refine W_exit ?_ | with_reducible refine O_nil ?_ | with_reducible refine K_seq ?_ | with_reducible refine K_seqE ?_ | with_reducible refine K_seqR ?_ | with_reducible refine K_block ?_ | with_reducible refine K_blockR ?_ | with_reducible refine K_blockE ?_ | ((with_reducible apply K_blockN); decide) | ((with_reducible apply O_r); (simp only [push_cast, seval]; rfl); (first | exact trivial | omega)) | ((with_reducible apply O_and hm); (simp only [push_cast, seval]; rfl); rfl; intro v hm; rotate_left; intro v g hm) | ((with_reducible apply W_condT); (focus (simp only [push_cast, seval]; done))) | ((with_reducible apply W_condF); (focus (simp only [push_cast, seval]; done))) | ((with_reducible apply O_cF hm); (simp only [push_cast, seval]; rfl); (first | apply spec_strings_Trim _ _); (any_goals ((repeat' (first | rfl | (with_reducible first | apply f_optN | apply f_optS | apply f_some | apply f_tup | apply f_agg | apply f_ptr | apply f_fn | apply dv_slice | apply sv_d | apply f_cons | apply fold_nil | apply fold_cons | apply fold_app | apply f_rowI | apply f_rowY | apply f_rowS | apply f_rowB | apply f_rowL) | (with_reducible apply f_byte; decide))); done)); intro x hm) | ((with_reducible apply S_condB hm); (simp only [push_cast, seval]; rfl); intro hm; rotate_left; intro hm) | ((with_reducible apply K_endS hm); (focus (simp only [resOf, resL, RV.get, push_cast, seval]; rfl)); (focus ((repeat' (first | rfl | (with_reducible first | apply f_optN | apply f_optS | apply f_some | apply f_tup | apply f_agg | apply f_ptr | apply f_fn | apply dv_slice | apply sv_d | apply f_cons | apply fold_nil | apply fold_cons | apply fold_app | apply f_rowI | apply f_rowY | apply f_rowS | apply f_rowB | apply f_rowL) | (with_reducible apply f_byte; decide))); done))) | ((with_reducible apply K_bool hm); (simp only [push_cast, seval]; rfl)))
noncomputable def m_desk_isDigest (x0 : List UInt8) : Option (Bool) := (sims_G1_0_3 x0).1
theorem spec_desk_isDigest (x0 : List UInt8) : ∀ r, m_desk_isDigest x0 = some r → PureSpec Tryz.prog 82 [.str x0] (.bool r) := (sims_G1_0_3 x0).2

def sc_partner_Digest_L1 : SC :=
  (.seq (.reg [.r 10 (.bin .lss (.t 9) (.t 8))])
  (.seq (.cond (.t 10)
    .skip
    (.exit 0))
  (.seq (.block 1 (.seq (.reg [.r 11 (.idx 1 (.t 7) (.t 9)),
       .o 12 (.ld1 (.t 11)),
       .r 5 (.mv (.t 12))])
    (.reg [.r 13 (.mv (.t 3)),
       .r 14 (.mv (.t 5)),
       .r 15 (.cvi .u64 (.t 14)),
       .r 16 (.bin .xor (.t 13) (.t 15)),
       .r 17 (.bin .mul (.t 16) (.c (.d (.int .u64 1099511628211)))),
       .r 3 (.mv (.t 17))])))
  (.reg [.r 18 (.bin .add (.t 9) (.c (.d (.int .i64 1)))),
     .r 9 (.mv (.t 18))]))))
def sc_partner_Digest_B1 : SC := .block 0 (.loop sc_partner_Digest_L1)
/-- interchange/partner.Digest -/
def sc_partner_Digest : SC :=
  (.seq (.reg [.r 2 (.mv (.c (.d (.str []))))])
  (.seq (.reg [.r 3 (.mv (.c (.d (.int .u64 14695981039346656037))))])
  (.seq (.seq (.reg [.r 7 (.mv (.t 0)),
     .r 8 (.len (.t 7)),
     .r 9 (.mv (.c (.d (.int .i64 0))))])
  sc_partner_Digest_B1)
  (.seq (.reg [.r 19 (.mv (.t 3)),
     .c 20 (.f 103) [.t 19, .c (.d (.int .i64 16))],
     .r 6 (.mv (.t 20))])
  (.seq (.reg [.r 21 (.mv (.t 6)),
     .r 22 (.lenT (.t 21)),
     .r 23 (.bin .sub (.c (.d (.int .i64 16))) (.t 22)),
     .c 24 (.f 91) [.c (.d (.str [48])), .t 23],
     .r 25 (.mv (.t 6)),
     .r 26 (.bin .add (.t 24) (.t 25)),
     .r 2 (.mv (.t 26))])
  .ret)))))
theorem fit_partner_Digest : fits Tryz.prog 83 Tryz.f83 sc_partner_Digest [.t 2] 1 = true := by kernel_rfl

set_option maxRecDepth 100000 in
set_option maxHeartbeats 40000000 in
noncomputable def sims_G1_0_4 : (∀ (x0 : List UInt8), {m : Option ((List UInt8)) // ∀ r, m = some r → PureSpec Tryz.prog 83 [.slice (List.map rowY x0)] (.str r)}) := by
  (intro x0; apply Subtype.mk; intro r hm; apply pure_walk Tryz.func83 fit_partner_Digest; unfold sc_partner_Digest)
  repeat' (first | with_reducible refine W_seq ?_ | with_reducible refine W_reg ?_ | with_reducible refine W_block ?_ | with_reducible refine W_skip ?_ | with_reducible refine W_ret ?_ | with_reducible refine W_exit ?_ | with_reducible refine O_nil ?_ | with_reducible refine K_seq ?_ | with_reducible refine K_seqE ?_ | with_reducible refine K_seqR ?_ | with_reducible refine K_block ?_ | with_reducible refine K_blockR ?_ | with_reducible refine K_blockE ?_ | ((with_reducible apply K_blockN); decide) | with_reducible refine O_o2r ?_ | ((with_reducible apply O_idxr hm); (iterate 2 (simp only [push_cast, seval]; rfl)); (intro _; rfl); intro e hm) | ((with_reducible apply O_idxVr hm); (iterate 3 (simp only [push_cast, seval]; rfl)); intro e hm) | ((with_reducible apply O_r); (simp only [push_cast, seval]; rfl); (first | exact trivial | omega)) | ((with_reducible apply O_ldV1r hm); (iterate 2 (simp only [push_cast, seval]; rfl)); (intro _; rfl); intro e hm) | ((with_reducible apply O_strr hm); (iterate 2 (simp only [push_cast, seval]; rfl)); intro hm) | ((with_reducible apply W_condT); (focus (simp only [push_cast, seval]; done))) | ((with_reducible apply W_condF); (focus (simp only [push_cast, seval]; done))) | ((with_reducible apply O_cF hm); (simp only [push_cast, seval]; rfl); (first | apply spec_strconv_FormatUint _ _ | apply spec_strings_Repeat _ _); (any_goals ((repeat' (first | rfl | (with_reducible first | apply f_optN | apply f_optS | apply f_some | apply f_tup | apply f_agg | apply f_ptr | apply f_fn | apply dv_slice | apply sv_d | apply f_cons | apply fold_nil | apply fold_cons | apply fold_app | apply f_rowI | apply f_rowY | apply f_rowS | apply f_rowB | apply f_rowL) | (with_reducible apply f_byte; decide))); done)); intro x hm) | ((with_reducible apply S_condB hm); (simp only [push_cast, seval]; rfl); intro hm; rotate_left; intro hm) | ((with_reducible apply K_endS hm); (focus (simp only [resOf, resL, RV.get, push_cast, seval]; rfl)); (focus ((repeat' (first | rfl | (with_reducible first | apply f_optN | apply f_optS | apply f_some | apply f_tup | apply f_agg | apply f_ptr | apply f_fn | apply dv_slice | apply sv_d | apply f_cons | apply fold_nil | apply fold_cons | apply fold_app | apply f_rowI | apply f_rowY | apply f_rowS | apply f_rowB | apply f_rowL) | (with_reducible apply f_byte; decide))); done))) | ((with_reducible apply K_leave hm); intro r hm) | ((with_reducible apply K_leaveR hm); intro r hm) | ((apply S_loopY (b := 0) (X := sc_partner_Digest_B1) (x := sc_partner_Digest_L1) rfl (fun (c : SV × SV) (s : Int × Int) => st [(3, .d (.int .u64 s.1)), (7, c.1), (8, c.2), (9, .d (.int .i64 s.2))] []) (c := (_, _)) (s0 := (_, _)) hm); (focus (first | (dsimp only; done) | (dsimp only; rfl) | rfl)); (with_reducible refine Then.mk ?_ ?_)) | ((apply K_next (s' := (_, _)) hm); (focus (first | (dsimp only; done) | (dsimp only; rfl) | rfl))) | ((apply K_brk (s' := (_, _)) hm); (focus (first | (dsimp only; done) | (dsimp only; rfl) | rfl))) | (((with_reducible apply K_brkN hm); (focus decide); intro r hm)) | (((with_reducible apply K_brkR hm); intro r hm)) | (((with_reducible apply LoopB.of); (focus (first | (dsimp only; done) | (dsimp only; rfl) | rfl)); (focus ((intro _; repeat' (first | with_reducible exact impC_end | with_reducible exact impC_endF | with_reducible refine impC_seq ?_ | with_reducible refine impC_block ?_ | ((with_reducible refine impC_rnd ?_); intro _) | ((with_reducible refine impC_brk ?_); intro _))))); (intro s o hm; first | unfold sc_partner_Digest_L1); rotate_left; intro s hm)) | (((apply imp_stT; (repeat' (first | with_reducible exact keepT_nil | with_reducible exact keepC_nil | with_reducible apply keepT_cons | with_reducible apply keepC_cons | ((with_reducible apply svle_eq); (focus (first | (simp only [push_cast, seval]; rfl) | rfl)); (focus ((repeat' (first | rfl | (with_reducible first | apply f_optN | apply f_optS | apply f_some | apply f_tup | apply f_agg | apply f_ptr | apply f_fn | apply dv_slice | apply sv_d | apply f_cons | apply fold_nil | apply fold_cons | apply fold_app | apply f_rowI | apply f_rowY | apply f_rowS | apply f_rowB | apply f_rowL) | (with_reducible apply f_byte; decide))); done))) | ((with_reducible apply svle_td); (focus (first | (simp only [push_cast, seval]; rfl) | rfl)); (focus (first | (simp only [push_cast, seval]; rfl) | rfl)); (focus ((repeat' (first | rfl | (with_reducible first | apply f_optN | apply f_optS | apply f_some | apply f_tup | apply f_agg | apply f_ptr | apply f_fn | apply dv_slice | apply sv_d | apply f_cons | apply fold_nil | apply fold_cons | apply fold_app | apply f_rowI | apply f_rowY | apply f_rowS | apply f_rowB | apply f_rowL) | (with_reducible apply f_byte; decide))); done))) | ((with_reducible apply chle_eq); (focus (first | (simp only [push_cast, seval]; rfl) | rfl)); (first | with_reducible exact chle_rfl rfl | with_reducible exact chle_map0 | with_reducible apply chle_vec | with_reducible apply chle_box)) | (with_reducible first | apply r_shS | apply r_shI | apply r_rflO | apply r_oneO | apply r_appO | apply r_nilO | apply c_ownN | apply c_ownL | apply vc_rfl | apply vc_nil | apply vc_cons | apply r_rfl | apply r_rows | apply r_nil | apply r_app | apply r_cons | apply c_rowI | apply c_rowY | apply c_rowS | apply c_rowB | apply c_rowL))); done))))
noncomputable def m_partner_Digest (x0 : List UInt8) : Option ((List UInt8)) := (sims_G1_0_4 x0).1
theorem spec_partner_Digest (x0 : List UInt8) : ∀ r, m_partner_Digest x0 = some r → PureSpec Tryz.prog 83 [.slice (List.map rowY x0)] (.str r) := (sims_G1_0_4 x0).2

/-- interchange/desk.body -/
def sc_desk_body : SC :=
  (.seq (.reg [.r 1 (.boxI (.t 0)),
     .r 2 (.mv (.c (.d (.str []))))])
  (.seq (.regD [.r 3 (.fld 0 (.t 1)),
     .r 4 (.ld1 (.t 3)),
     .c 5 (.f 57) [.t 4],
     .r 6 (.bin .add (.t 5) (.c (.d (.str [32])))),
     .r 7 (.fld 1 (.t 1)),
     .r 8 (.ld1 (.t 7)),
     .r 9 (.bin .add (.t 6) (.t 8)),
     .r 10 (.bin .add (.t 9) (.c (.d (.str [32])))),
     .r 11 (.fld 2 (.t 1)),
     .r 12 (.ld1 (.t 11)),
     .r 13 (.bin .add (.t 10) (.t 12)),
     .r 14 (.bin .add (.t 13) (.c (.d (.str [32])))),
     .r 15 (.fld 3 (.t 1)),
     .r 16 (.ld1 (.t 15)),
     .r 17 (.bin .add (.t 14) (.t 16)),
     .r 2 (.mv (.t 17))])
  .ret))
theorem fit_desk_body : fits Tryz.prog 32 Tryz.f32 sc_desk_body [.t 2] 1 = true := by kernel_rfl

set_option maxRecDepth 100000 in
set_option maxHeartbeats 40000000 in
noncomputable def sims_G1_0_5 : (∀ (x0 : Tapi_Record), {m : Option ((List UInt8)) // ∀ r, m = some r → PureSpec Tryz.prog 32 [.agg (rTapi_Record x0)] (.str r)}) := by
  (intro x0; apply Subtype.mk; intro r hm; apply pure_walk Tryz.func32 fit_desk_body; unfold sc_desk_body)
  repeat' (first | with_reducible refine W_seq ?_ | with_reducible refine W_reg ?_ | with_reducible refine W_regD ?_ | with_reducible refine W_block ?_ | with_reducible refine W_skip ?_ | with_reducible refine W_ret ?_ | with_reducible refine W_exit ?_ | with_reducible refine O_nil ?_ | with_reducible refine K_seq ?_ | with_reducible refine K_seqE ?_ | with_reducible refine K_seqR ?_ | with_reducible refine K_block ?_ | with_reducible refine K_blockR ?_ | with_reducible refine K_blockE ?_ | ((with_reducible apply K_blockN); decide) | ((with_reducible apply O_r); (simp only [push_cast, seval]; rfl); (first | exact trivial | omega)) | ((with_reducible apply O_strr hm); (iterate 2 (simp only [push_cast, seval]; rfl)); intro hm) | ((with_reducible apply W_condT); (focus (simp only [push_cast, seval]; done))) | ((with_reducible apply W_condF); (focus (simp only [push_cast, seval]; done))) | ((with_reducible apply O_cF hm); (simp only [push_cast, seval]; rfl); (first | apply spec_strconv_Itoa _); (any_goals ((repeat' (first | rfl | (with_reducible first | apply fT_Tapi_Record | apply f_optN | apply f_optS | apply f_some | apply f_tup | apply f_agg | apply f_ptr | apply f_fn | apply dv_slice | apply sv_d | apply f_cons | apply fold_nil | apply fold_cons | apply fold_app | apply f_rowI | apply f_rowY | apply f_rowS | apply f_rowB | apply f_rowL) | (with_reducible apply f_byte; decide))); done)); intro x hm) | ((with_reducible apply S_condB hm); (simp only [push_cast, seval]; rfl); intro hm; rotate_left; intro hm) | ((with_reducible apply K_endS hm); (focus (simp only [resOf, resL, RV.get, push_cast, seval]; rfl)); (focus ((repeat' (first | rfl | (with_reducible first | apply fT_Tapi_Record | apply f_optN | apply f_optS | apply f_some | apply f_tup | apply f_agg | apply f_ptr | apply f_fn | apply dv_slice | apply sv_d | apply f_cons | apply fold_nil | apply fold_cons | apply fold_app | apply f_rowI | apply f_rowY | apply f_rowS | apply f_rowB | apply f_rowL) | (with_reducible apply f_byte; decide))); done))))
noncomputable def m_desk_body (x0 : Tapi_Record) : Option ((List UInt8)) := (sims_G1_0_5 x0).1
theorem spec_desk_body (x0 : Tapi_Record) : ∀ r, m_desk_body x0 = some r → PureSpec Tryz.prog 32 [.agg (rTapi_Record x0)] (.str r) := (sims_G1_0_5 x0).2

/-- interchange/kit.Lines -/
def sc_kit_Lines : SC :=
  (.seq (.reg [.r 2 (.mv (.c (.nils))),
     .r 3 (.mv (.c (.d (.bool false))))])
  (.seq (.seq (.reg [.r 6 (.mv (.t 0)),
     .r 7 (.bin .eql (.t 6) (.c (.d (.str []))))])
  (.cond (.t 7)
    (.seq (.reg [.r 2 (.mv (.c (.nils))),
       .r 3 (.mv (.c (.d (.bool true))))])
    .ret)
    .skip))
  (.seq (.reg [.r 9 (.mv (.t 0)),
     .c 10 (.f 58) [.t 9, .c (.d (.str [10]))],
     .r 8 (.mv (.t 10)),
     .r 11 (.ext (.t 8) 0),
     .r 12 (.ext (.t 8) 1),
     .r 4 (.mv (.t 11)),
     .r 5 (.mv (.t 12))])
  (.seq (.reg [.r 13 (.mv (.t 4)),
     .c 14 (.f 41) [.t 13, .c (.d (.str [10]))],
     .r 15 (.mv (.t 5)),
     .r 2 (.mv (.t 14)),
     .r 3 (.mv (.t 15))])
  .ret))))
theorem fit_kit_Lines : fits Tryz.prog 35 Tryz.f35 sc_kit_Lines [.t 2, .t 3] 1 = true := by kernel_rfl

set_option maxRecDepth 100000 in
set_option maxHeartbeats 40000000 in
noncomputable def sims_G1_0_6 : (∀ (x0 : List UInt8), {m : Option ((List (List UInt8)) × Bool) // ∀ r, m = some r → PureSpec Tryz.prog 35 [.str x0] (.tup [.slice (List.map rowS r.1), .bool r.2])}) := by
  (intro x0; apply Subtype.mk; intro r hm; apply pure_walk Tryz.func35 fit_kit_Lines; unfold sc_kit_Lines)
  repeat' (first | with_reducible refine W_seq ?_ | with_reducible refine W_reg ?_ | with_reducible refine W_block ?_ | with_reducible refine W_skip ?_ | with_reducible refine W_ret ?_ | with_reducible refine W_exit ?_ | with_reducible refine O_nil ?_ | with_reducible refine K_seq ?_ | with_reducible refine K_seqE ?_ | with_reducible refine K_seqR ?_ | with_reducible refine K_block ?_ | with_reducible refine K_blockR ?_ | with_reducible refine K_blockE ?_ | ((with_reducible apply K_blockN); decide) | ((with_reducible apply O_r); (simp only [push_cast, seval]; rfl); (first | exact trivial | omega)) | ((with_reducible apply W_condT); (focus (simp only [push_cast, seval]; done))) | ((with_reducible apply W_condF); (focus (simp only [push_cast, seval]; done))) | ((with_reducible apply O_cF hm); (simp only [push_cast, seval]; rfl); (first | apply spec_strings_CutSuffix _ _ | apply spec_strings_Split _ _); (any_goals ((repeat' (first | rfl | (with_reducible first | apply f_optN | apply f_optS | apply f_some | apply f_tup | apply f_agg | apply f_ptr | apply f_fn | apply dv_slice | apply sv_d | apply f_cons | apply fold_nil | apply fold_cons | apply fold_app | apply f_rowI | apply f_rowY | apply f_rowS | apply f_rowB | apply f_rowL) | (with_reducible apply f_byte; decide))); done)); intro x hm) | ((with_reducible apply S_condB hm); (simp only [push_cast, seval]; rfl); intro hm; rotate_left; intro hm) | ((with_reducible apply K_end2 hm); (focus (simp only [resOf, resL, RV.get, push_cast, seval]; rfl)); (focus (first | (dsimp only; done) | (dsimp only; rfl) | rfl)); (focus ((repeat' (first | rfl | (with_reducible first | apply f_optN | apply f_optS | apply f_some | apply f_tup | apply f_agg | apply f_ptr | apply f_fn | apply dv_slice | apply sv_d | apply f_cons | apply fold_nil | apply fold_cons | apply fold_app | apply f_rowI | apply f_rowY | apply f_rowS | apply f_rowB | apply f_rowL) | (with_reducible apply f_byte; decide))); done))))
noncomputable def m_kit_Lines (x0 : List UInt8) : Option ((List (List UInt8)) × Bool) := (sims_G1_0_6 x0).1
theorem spec_kit_Lines (x0 : List UInt8) : ∀ r, m_kit_Lines x0 = some r → PureSpec Tryz.prog 35 [.str x0] (.tup [.slice (List.map rowS r.1), .bool r.2]) := (sims_G1_0_6 x0).2

def sc_slices_Index_string_string_L1 : SC :=
  (.seq (.reg [.r 9 (.bin .lss (.t 8) (.t 7))])
  (.seq (.cond (.t 9)
    .skip
    (.exit 0))
  (.seq (.block 1 (.seq (.reg [.r 10 (.mv (.t 8)),
       .r 5 (.mv (.t 10))])
    (.seq (.reg [.r 11 (.mv (.t 1)),
       .r 12 (.mv (.t 0)),
       .r 13 (.mv (.t 5)),
       .r 14 (.idx 1 (.t 12) (.t 13)),
       .o 15 (.ld1 (.t 14)),
       .r 16 (.bin .eql (.t 11) (.t 15))])
    (.cond (.t 16)
      (.seq (.reg [.r 17 (.mv (.t 5)),
         .r 4 (.mv (.t 17))])
      .ret)
      .skip))))
  (.reg [.r 18 (.bin .add (.t 8) (.c (.d (.int .i64 1)))),
     .r 8 (.mv (.t 18))]))))
def sc_slices_Index_string_string_B1 : SC := .block 0 (.loop sc_slices_Index_string_string_L1)
/-- slices.Index[[]string,string] -/
def sc_slices_Index_string_string : SC :=
  (.seq (.reg [.r 4 (.mv (.c (.d (.int .i64 0))))])
  (.seq (.seq (.reg [.r 6 (.mv (.t 0)),
     .r 7 (.len (.t 6)),
     .r 8 (.mv (.c (.d (.int .i64 0))))])
  sc_slices_Index_string_string_B1)
  (.seq (.reg [.r 4 (.mv (.c (.d (.int .i64 (-1)))))])
  .ret)))
theorem fit_slices_Index_string_string : fits Tryz.prog 106 Tryz.f106 sc_slices_Index_string_string [.t 4] 2 = true := by kernel_rfl

set_option maxRecDepth 100000 in
set_option maxHeartbeats 40000000 in
noncomputable def sims_G1_0_7 : (∀ (x0 : List (List UInt8)) (x1 : List UInt8), {m : Option (Int) // ∀ r, m = some r → PureSpec Tryz.prog 106 [.slice (List.map rowS x0), .str x1] (.int .i64 r)}) := by
  (intro x0 x1; apply Subtype.mk; intro r hm; apply pure_walk Tryz.func106 fit_slices_Index_string_string; unfold sc_slices_Index_string_string)
  repeat' (first | with_reducible refine W_seq ?_ | with_reducible refine W_reg ?_ | with_reducible refine W_block ?_ | with_reducible refine W_skip ?_ | with_reducible refine W_ret ?_ | with_reducible refine W_exit ?_ | with_reducible refine O_nil ?_ | with_reducible refine K_seq ?_ | with_reducible refine K_seqE ?_ | with_reducible refine K_seqR ?_ | with_reducible refine K_block ?_ | with_reducible refine K_blockR ?_ | with_reducible refine K_blockE ?_ | ((with_reducible apply K_blockN); decide) | with_reducible refine O_o2r ?_ | ((with_reducible apply O_idxr hm); (iterate 2 (simp only [push_cast, seval]; rfl)); (intro _; rfl); intro e hm) | ((with_reducible apply O_idxVr hm); (iterate 3 (simp only [push_cast, seval]; rfl)); intro e hm) | ((with_reducible apply O_r); (simp only [push_cast, seval]; rfl); (first | exact trivial | omega)) | ((with_reducible apply O_ldV1r hm); (iterate 2 (simp only [push_cast, seval]; rfl)); (intro _; rfl); intro e hm) | ((with_reducible apply O_strr hm); (iterate 2 (simp only [push_cast, seval]; rfl)); intro hm) | ((with_reducible apply W_condT); (focus (simp only [push_cast, seval]; done))) | ((with_reducible apply W_condF); (focus (simp only [push_cast, seval]; done))) | ((with_reducible apply S_condB hm); (simp only [push_cast, seval]; rfl); intro hm; rotate_left; intro hm) | ((with_reducible apply K_endS hm); (focus (simp only [resOf, resL, RV.get, push_cast, seval]; rfl)); (focus ((repeat' (first | rfl | (with_reducible first | apply f_optN | apply f_optS | apply f_some | apply f_tup | apply f_agg | apply f_ptr | apply f_fn | apply dv_slice | apply sv_d | apply f_cons | apply fold_nil | apply fold_cons | apply fold_app | apply f_rowI | apply f_rowY | apply f_rowS | apply f_rowB | apply f_rowL) | (with_reducible apply f_byte; decide))); done))) | ((with_reducible apply K_leave hm); intro r hm) | ((with_reducible apply K_leaveR hm); intro r hm) | ((apply S_loopY (b := 0) (X := sc_slices_Index_string_string_B1) (x := sc_slices_Index_string_string_L1) rfl (fun (c : SV × SV × SV) (s : Int) => st [(0, c.1), (1, c.2.1), (7, c.2.2), (8, .d (.int .i64 s))] []) (c := (_, _, _)) (s0 := _) hm); (focus (first | (dsimp only; done) | (dsimp only; rfl) | rfl)); (with_reducible refine Then.mk ?_ ?_)) | ((apply K_next (s' := _) hm); (focus (first | (dsimp only; done) | (dsimp only; rfl) | rfl))) | ((apply K_brk (s' := _) hm); (focus (first | (dsimp only; done) | (dsimp only; rfl) | rfl))) | (((with_reducible apply K_brkN hm); (focus decide); intro r hm)) | (((with_reducible apply K_brkR hm); intro r hm)) | (((with_reducible apply LoopB.of); (focus (first | (dsimp only; done) | (dsimp only; rfl) | rfl)); (focus ((intro _; repeat' (first | with_reducible exact impC_end | with_reducible exact impC_endF | with_reducible refine impC_seq ?_ | with_reducible refine impC_block ?_ | ((with_reducible refine impC_rnd ?_); intro _) | ((with_reducible refine impC_brk ?_); intro _))))); (intro s o hm; first | unfold sc_slices_Index_string_string_L1); rotate_left; intro s hm)) | (((apply imp_stT; (repeat' (first | with_reducible exact keepT_nil | with_reducible exact keepC_nil | with_reducible apply keepT_cons | with_reducible apply keepC_cons | ((with_reducible apply svle_eq); (focus (first | (simp only [push_cast, seval]; rfl) | rfl)); (focus ((repeat' (first | rfl | (with_reducible first | apply f_optN | apply f_optS | apply f_some | apply f_tup | apply f_agg | apply f_ptr | apply f_fn | apply dv_slice | apply sv_d | apply f_cons | apply fold_nil | apply fold_cons | apply fold_app | apply f_rowI | apply f_rowY | apply f_rowS | apply f_rowB | apply f_rowL) | (with_reducible apply f_byte; decide))); done))) | ((with_reducible apply svle_td); (focus (first | (simp only [push_cast, seval]; rfl) | rfl)); (focus (first | (simp only [push_cast, seval]; rfl) | rfl)); (focus ((repeat' (first | rfl | (with_reducible first | apply f_optN | apply f_optS | apply f_some | apply f_tup | apply f_agg | apply f_ptr | apply f_fn | apply dv_slice | apply sv_d | apply f_cons | apply fold_nil | apply fold_cons | apply fold_app | apply f_rowI | apply f_rowY | apply f_rowS | apply f_rowB | apply f_rowL) | (with_reducible apply f_byte; decide))); done))) | ((with_reducible apply chle_eq); (focus (first | (simp only [push_cast, seval]; rfl) | rfl)); (first | with_reducible exact chle_rfl rfl | with_reducible exact chle_map0 | with_reducible apply chle_vec | with_reducible apply chle_box)) | (with_reducible first | apply r_shS | apply r_shI | apply r_rflO | apply r_oneO | apply r_appO | apply r_nilO | apply c_ownN | apply c_ownL | apply vc_rfl | apply vc_nil | apply vc_cons | apply r_rfl | apply r_rows | apply r_nil | apply r_app | apply r_cons | apply c_rowI | apply c_rowY | apply c_rowS | apply c_rowB | apply c_rowL))); done))))
noncomputable def m_slices_Index_string_string (x0 : List (List UInt8)) (x1 : List UInt8) : Option (Int) := (sims_G1_0_7 x0 x1).1
theorem spec_slices_Index_string_string (x0 : List (List UInt8)) (x1 : List UInt8) : ∀ r, m_slices_Index_string_string x0 x1 = some r → PureSpec Tryz.prog 106 [.slice (List.map rowS x0), .str x1] (.int .i64 r) := (sims_G1_0_7 x0 x1).2

def sc_slices_IndexFunc_string_string_L1 : SC :=
  (.seq (.reg [.r 9 (.bin .lss (.t 8) (.t 7))])
  (.seq (.cond (.t 9)
    .skip
    (.exit 0))
  (.seq (.block 1 (.seq (.reg [.r 10 (.mv (.t 8)),
       .r 5 (.mv (.t 10))])
    (.seq (.reg [.r 11 (.mv (.t 1)),
       .r 12 (.mv (.t 0)),
       .r 13 (.mv (.t 5)),
       .r 14 (.idx 1 (.t 12) (.t 13)),
       .o 15 (.ld1 (.t 14)),
       .c 16 (.t 11) [.t 15]])
    (.cond (.t 16)
      (.seq (.reg [.r 17 (.mv (.t 5)),
         .r 4 (.mv (.t 17))])
      .ret)
      .skip))))
  (.reg [.r 18 (.bin .add (.t 8) (.c (.d (.int .i64 1)))),
     .r 8 (.mv (.t 18))]))))
def sc_slices_IndexFunc_string_string_B1 : SC := .block 0 (.loop sc_slices_IndexFunc_string_string_L1)
/-- slices.IndexFunc[[]string,string] -/
def sc_slices_IndexFunc_string_string : SC :=
  (.seq (.reg [.r 4 (.mv (.c (.d (.int .i64 0))))])
  (.seq (.seq (.reg [.r 6 (.mv (.t 0)),
     .r 7 (.len (.t 6)),
     .r 8 (.mv (.c (.d (.int .i64 0))))])
  sc_slices_IndexFunc_string_string_B1)
  (.seq (.reg [.r 4 (.mv (.c (.d (.int .i64 (-1)))))])
  .ret)))
theorem fit_slices_IndexFunc_string_string : fits Tryz.prog 89 Tryz.f89 sc_slices_IndexFunc_string_string [.t 4] 2 = true := by kernel_rfl

set_option maxRecDepth 100000 in
set_option maxHeartbeats 40000000 in
noncomputable def sims_G1_0_8 : (∀ (x0 : List (List UInt8)) (f1 : FuncId) (c1 : List DV) (p1 : (List UInt8) → Option (Bool)) (h1 : ∀ a0 r, p1 a0 = some r → PureSpec Tryz.prog f1 ([.str a0] ++ c1) (.bool r)), {m : Option (Int) // ∀ r, m = some r → PureSpec Tryz.prog 89 [.slice (List.map rowS x0), .fn f1 c1] (.int .i64 r)}) := by
  (intro x0 f1 c1 p1 h1; apply Subtype.mk; intro r hm; apply pure_walk Tryz.func89 fit_slices_IndexFunc_string_string; unfold sc_slices_IndexFunc_string_string)
  repeat' (first | with_reducible refine W_seq ?_ | with_reducible refine W_reg ?_ | with_reducible refine W_block ?_ | with_reducible refine W_skip ?_ | with_reducible refine W_ret ?_ | with_reducible refine W_exit ?_ | with_reducible refine O_nil ?_ | with_reducible refine K_seq ?_ | with_reducible refine K_seqE ?_ | with_reducible refine K_seqR ?_ | with_reducible refine K_block ?_ | with_reducible refine K_blockR ?_ | with_reducible refine K_blockE ?_ | ((with_reducible apply K_blockN); decide) | with_reducible refine O_o2r ?_ | ((with_reducible apply O_idxr hm); (iterate 2 (simp only [push_cast, seval]; rfl)); (intro _; rfl); intro e hm) | ((with_reducible apply O_idxVr hm); (iterate 3 (simp only [push_cast, seval]; rfl)); intro e hm) | ((with_reducible apply O_r); (simp only [push_cast, seval]; rfl); (first | exact trivial | omega)) | ((with_reducible apply O_ldV1r hm); (iterate 2 (simp only [push_cast, seval]; rfl)); (intro _; rfl); intro e hm) | ((with_reducible apply O_strr hm); (iterate 2 (simp only [push_cast, seval]; rfl)); intro hm) | ((with_reducible apply W_condT); (focus (simp only [push_cast, seval]; done))) | ((with_reducible apply W_condF); (focus (simp only [push_cast, seval]; done))) | ((with_reducible apply O_cF hm); (simp only [push_cast, seval]; rfl); (first | apply h1 _); (any_goals ((repeat' (first | rfl | (with_reducible first | apply f_optN | apply f_optS | apply f_some | apply f_tup | apply f_agg | apply f_ptr | apply f_fn | apply dv_slice | apply sv_d | apply f_cons | apply fold_nil | apply fold_cons | apply fold_app | apply f_rowI | apply f_rowY | apply f_rowS | apply f_rowB | apply f_rowL) | (with_reducible apply f_byte; decide))); done)); intro x hm) | ((with_reducible apply O_cvS hm); (iterate 2 (simp only [push_cast, seval]; rfl)); (focus (first | exact h1 _)); intro x hm) | ((with_reducible apply S_condB hm); (simp only [push_cast, seval]; rfl); intro hm; rotate_left; intro hm) | ((with_reducible apply K_endS hm); (focus (simp only [resOf, resL, RV.get, push_cast, seval]; rfl)); (focus ((repeat' (first | rfl | (with_reducible first | apply f_optN | apply f_optS | apply f_some | apply f_tup | apply f_agg | apply f_ptr | apply f_fn | apply dv_slice | apply sv_d | apply f_cons | apply fold_nil | apply fold_cons | apply fold_app | apply f_rowI | apply f_rowY | apply f_rowS | apply f_rowB | apply f_rowL) | (with_reducible apply f_byte; decide))); done))) | ((with_reducible apply K_leave hm); intro r hm) | ((with_reducible apply K_leaveR hm); intro r hm) | ((apply S_loopY (b := 0) (X := sc_slices_IndexFunc_string_string_B1) (x := sc_slices_IndexFunc_string_string_L1) rfl (fun (c : SV × SV × SV) (s : Int) => st [(0, c.1), (1, c.2.1), (7, c.2.2), (8, .d (.int .i64 s))] []) (c := (_, _, _)) (s0 := _) hm); (focus (first | (dsimp only; done) | (dsimp only; rfl) | rfl)); (with_reducible refine Then.mk ?_ ?_)) | ((apply K_next (s' := _) hm); (focus (first | (dsimp only; done) | (dsimp only; rfl) | rfl))) | ((apply K_brk (s' := _) hm); (focus (first | (dsimp only; done) | (dsimp only; rfl) | rfl))) | (((with_reducible apply K_brkN hm); (focus decide); intro r hm)) | (((with_reducible apply K_brkR hm); intro r hm)) | (((with_reducible apply LoopB.of); (focus (first | (dsimp only; done) | (dsimp only; rfl) | rfl)); (focus ((intro _; repeat' (first | with_reducible exact impC_end | with_reducible exact impC_endF | with_reducible refine impC_seq ?_ | with_reducible refine impC_block ?_ | ((with_reducible refine impC_rnd ?_); intro _) | ((with_reducible refine impC_brk ?_); intro _))))); (intro s o hm; first | unfold sc_slices_IndexFunc_string_string_L1); rotate_left; intro s hm)) | (((apply imp_stT; (repeat' (first | with_reducible exact keepT_nil | with_reducible exact keepC_nil | with_reducible apply keepT_cons | with_reducible apply keepC_cons | ((with_reducible apply svle_eq); (focus (first | (simp only [push_cast, seval]; rfl) | rfl)); (focus ((repeat' (first | rfl | (with_reducible first | apply f_optN | apply f_optS | apply f_some | apply f_tup | apply f_agg | apply f_ptr | apply f_fn | apply dv_slice | apply sv_d | apply f_cons | apply fold_nil | apply fold_cons | apply fold_app | apply f_rowI | apply f_rowY | apply f_rowS | apply f_rowB | apply f_rowL) | (with_reducible apply f_byte; decide))); done))) | ((with_reducible apply svle_td); (focus (first | (simp only [push_cast, seval]; rfl) | rfl)); (focus (first | (simp only [push_cast, seval]; rfl) | rfl)); (focus ((repeat' (first | rfl | (with_reducible first | apply f_optN | apply f_optS | apply f_some | apply f_tup | apply f_agg | apply f_ptr | apply f_fn | apply dv_slice | apply sv_d | apply f_cons | apply fold_nil | apply fold_cons | apply fold_app | apply f_rowI | apply f_rowY | apply f_rowS | apply f_rowB | apply f_rowL) | (with_reducible apply f_byte; decide))); done))) | ((with_reducible apply chle_eq); (focus (first | (simp only [push_cast, seval]; rfl) | rfl)); (first | with_reducible exact chle_rfl rfl | with_reducible exact chle_map0 | with_reducible apply chle_vec | with_reducible apply chle_box)) | (with_reducible first | apply r_shS | apply r_shI | apply r_rflO | apply r_oneO | apply r_appO | apply r_nilO | apply c_ownN | apply c_ownL | apply vc_rfl | apply vc_nil | apply vc_cons | apply r_rfl | apply r_rows | apply r_nil | apply r_app | apply r_cons | apply c_rowI | apply c_rowY | apply c_rowS | apply c_rowB | apply c_rowL))); done))))
noncomputable def m_slices_IndexFunc_string_string (x0 : List (List UInt8)) (f1 : FuncId) (c1 : List DV) (p1 : (List UInt8) → Option (Bool)) (h1 : ∀ a0 r, p1 a0 = some r → PureSpec Tryz.prog f1 ([.str a0] ++ c1) (.bool r)) : Option (Int) := (sims_G1_0_8 x0 f1 c1 p1 h1).1
theorem spec_slices_IndexFunc_string_string (x0 : List (List UInt8)) (f1 : FuncId) (c1 : List DV) (p1 : (List UInt8) → Option (Bool)) (h1 : ∀ a0 r, p1 a0 = some r → PureSpec Tryz.prog f1 ([.str a0] ++ c1) (.bool r)) : ∀ r, m_slices_IndexFunc_string_string x0 f1 c1 p1 h1 = some r → PureSpec Tryz.prog 89 [.slice (List.map rowS x0), .fn f1 c1] (.int .i64 r) := (sims_G1_0_8 x0 f1 c1 p1 h1).2

def sc_slices_Equal_interchange_api_Record_interchange_api_Record_L1 : SC :=
  (.seq (.reg [.r 14 (.bin .lss (.t 13) (.t 12))])
  (.seq (.cond (.t 14)
    .skip
    (.exit 0))
  (.seq (.block 1 (.seq (.reg [.r 15 (.mv (.t 13)),
       .r 5 (.mv (.t 15))])
    (.seq (.regD [.r 16 (.mv (.t 0)),
       .r 17 (.mv (.t 5)),
       .r 18 (.idx 6 (.t 16) (.t 17)),
       .r 19 (.ldA 6 (.t 18)),
       .r 20 (.mv (.t 1)),
       .r 21 (.mv (.t 5)),
       .r 22 (.idx 6 (.t 20) (.t 21)),
       .r 23 (.ldA 6 (.t 22)),
       .r 24 (.eqs .neq [(.int .i64), .str, .str, .str, .bool, .str] (.t 19) (.t 23))])
    (.cond (.t 24)
      (.seq (.reg [.r 4 (.mv (.c (.d (.bool false))))])
      .ret)
      .skip))))
  (.reg [.r 25 (.bin .add (.t 13) (.c (.d (.int .i64 1)))),
     .r 13 (.mv (.t 25))]))))
def sc_slices_Equal_interchange_api_Record_interchange_api_Record_B1 : SC := .block 0 (.loop sc_slices_Equal_interchange_api_Record_interchange_api_Record_L1)
/-- slices.Equal[[]interchange/api.Record,interchange/api.Record] -/
def sc_slices_Equal_interchange_api_Record_interchange_api_Record : SC :=
  (.seq (.reg [.r 4 (.mv (.c (.d (.bool false))))])
  (.seq (.seq (.reg [.r 6 (.mv (.t 0)),
     .r 7 (.len (.t 6)),
     .r 8 (.mv (.t 1)),
     .r 9 (.len (.t 8)),
     .r 10 (.bin .neq (.t 7) (.t 9))])
  (.cond (.t 10)
    (.seq (.reg [.r 4 (.mv (.c (.d (.bool false))))])
    .ret)
    .skip))
  (.seq (.seq (.reg [.r 11 (.mv (.t 0)),
     .r 12 (.len (.t 11)),
     .r 13 (.mv (.c (.d (.int .i64 0))))])
  sc_slices_Equal_interchange_api_Record_interchange_api_Record_B1)
  (.seq (.reg [.r 4 (.mv (.c (.d (.bool true))))])
  .ret))))
theorem fit_slices_Equal_interchange_api_Record_interchange_api_Record : fits Tryz.prog 16 Tryz.f16 sc_slices_Equal_interchange_api_Record_interchange_api_Record [.t 4] 2 = true := by kernel_rfl

set_option maxRecDepth 100000 in
set_option maxHeartbeats 40000000 in
noncomputable def sims_G1_0_9 : (∀ (x0 : List Tapi_Record) (x1 : List Tapi_Record), {m : Option (Bool) // ∀ r, m = some r → PureSpec Tryz.prog 16 [.slice (List.map rTapi_Record x0), .slice (List.map rTapi_Record x1)] (.bool r)}) := by
  (intro x0 x1; apply Subtype.mk; intro r hm; apply pure_walk Tryz.func16 fit_slices_Equal_interchange_api_Record_interchange_api_Record; unfold sc_slices_Equal_interchange_api_Record_interchange_api_Record)
  repeat' (first | with_reducible refine W_seq ?_ | with_reducible refine W_reg ?_ | with_reducible refine W_regD ?_ | with_reducible refine W_block ?_ | with_reducible refine W_skip ?_ | with_reducible refine W_ret ?_ | with_reducible refine W_exit ?_ | with_reducible refine O_nil ?_ | with_reducible refine K_seq ?_ | with_reducible refine K_seqE ?_ | with_reducible refine K_seqR ?_ | with_reducible refine K_block ?_ | with_reducible refine K_blockR ?_ | with_reducible refine K_blockE ?_ | ((with_reducible apply K_blockN); decide) | ((with_reducible apply O_idxr hm); (iterate 2 (simp only [push_cast, seval]; rfl)); (intro _; rfl); intro e hm) | ((with_reducible apply O_idxVr hm); (iterate 3 (simp only [push_cast, seval]; rfl)); intro e hm) | ((with_reducible apply O_r); (simp only [push_cast, seval]; rfl); (first | exact trivial | omega)) | ((with_reducible apply O_ldV1r hm); (iterate 2 (simp only [push_cast, seval]; rfl)); (intro _; rfl); intro e hm) | ((with_reducible apply O_ldAVr hm); (iterate 2 (simp only [push_cast, seval]; rfl)); (intro _; rfl); intro e hm) | ((with_reducible apply O_strr hm); (iterate 2 (simp only [push_cast, seval]; rfl)); intro hm) | ((with_reducible apply W_condT); (focus (simp only [push_cast, seval]; done))) | ((with_reducible apply W_condF); (focus (simp only [push_cast, seval]; done))) | ((with_reducible apply S_condB hm); (simp only [push_cast, seval]; rfl); intro hm; rotate_left; intro hm) | ((with_reducible apply K_endS hm); (focus (simp only [resOf, resL, RV.get, push_cast, seval]; rfl)); (focus ((repeat' (first | rfl | (with_reducible first | apply fT_Tapi_Record | apply f_optN | apply f_optS | apply f_some | apply f_tup | apply f_agg | apply f_ptr | apply f_fn | apply dv_slice | apply sv_d | apply f_cons | apply fold_nil | apply fold_cons | apply fold_app | apply f_rowI | apply f_rowY | apply f_rowS | apply f_rowB | apply f_rowL) | (with_reducible apply f_byte; decide))); done))) | ((with_reducible apply K_leave hm); intro r hm) | ((with_reducible apply K_leaveR hm); intro r hm) | ((apply S_loopY (b := 0) (X := sc_slices_Equal_interchange_api_Record_interchange_api_Record_B1) (x := sc_slices_Equal_interchange_api_Record_interchange_api_Record_L1) rfl (fun (c : SV × SV × SV) (s : Int) => st [(0, c.1), (1, c.2.1), (12, c.2.2), (13, .d (.int .i64 s))] []) (c := (_, _, _)) (s0 := _) hm); (focus (first | (dsimp only; done) | (dsimp only; rfl) | rfl)); (with_reducible refine Then.mk ?_ ?_)) | ((apply K_next (s' := _) hm); (focus (first | (dsimp only; done) | (dsimp only; rfl) | rfl))) | ((apply K_brk (s' := _) hm); (focus (first | (dsimp only; done) | (dsimp only; rfl) | rfl))) | (((with_reducible apply K_brkN hm); (focus decide); intro r hm)) | (((with_reducible apply K_brkR hm); intro r hm)) | (((with_reducible apply LoopB.of); (focus (first | (dsimp only; done) | (dsimp only; rfl) | rfl)); (focus ((intro _; repeat' (first | with_reducible exact impC_end | with_reducible exact impC_endF | with_reducible refine impC_seq ?_ | with_reducible refine impC_block ?_ | ((with_reducible refine impC_rnd ?_); intro _) | ((with_reducible refine impC_brk ?_); intro _))))); (intro s o hm; first | unfold sc_slices_Equal_interchange_api_Record_interchange_api_Record_L1); rotate_left; intro s hm)) | (((apply imp_stT; (repeat' (first | with_reducible exact keepT_nil | with_reducible exact keepC_nil | with_reducible apply keepT_cons | with_reducible apply keepC_cons | ((with_reducible apply svle_eq); (focus (first | (simp only [push_cast, seval]; rfl) | rfl)); (focus ((repeat' (first | rfl | (with_reducible first | apply fT_Tapi_Record | apply f_optN | apply f_optS | apply f_some | apply f_tup | apply f_agg | apply f_ptr | apply f_fn | apply dv_slice | apply sv_d | apply f_cons | apply fold_nil | apply fold_cons | apply fold_app | apply f_rowI | apply f_rowY | apply f_rowS | apply f_rowB | apply f_rowL) | (with_reducible apply f_byte; decide))); done))) | ((with_reducible apply svle_td); (focus (first | (simp only [push_cast, seval]; rfl) | rfl)); (focus (first | (simp only [push_cast, seval]; rfl) | rfl)); (focus ((repeat' (first | rfl | (with_reducible first | apply fT_Tapi_Record | apply f_optN | apply f_optS | apply f_some | apply f_tup | apply f_agg | apply f_ptr | apply f_fn | apply dv_slice | apply sv_d | apply f_cons | apply fold_nil | apply fold_cons | apply fold_app | apply f_rowI | apply f_rowY | apply f_rowS | apply f_rowB | apply f_rowL) | (with_reducible apply f_byte; decide))); done))) | ((with_reducible apply chle_eq); (focus (first | (simp only [push_cast, seval]; rfl) | rfl)); (first | with_reducible exact chle_rfl rfl | with_reducible exact chle_map0 | with_reducible apply chle_vec | with_reducible apply chle_box)) | (with_reducible first | apply cT_Tapi_Record | apply r_shS | apply r_shI | apply r_rflO | apply r_oneO | apply r_appO | apply r_nilO | apply c_ownN | apply c_ownL | apply vc_rfl | apply vc_nil | apply vc_cons | apply r_rfl | apply r_rows | apply r_nil | apply r_app | apply r_cons | apply c_rowI | apply c_rowY | apply c_rowS | apply c_rowB | apply c_rowL))); done))))
noncomputable def m_slices_Equal_interchange_api_Record_interchange_api_Record (x0 : List Tapi_Record) (x1 : List Tapi_Record) : Option (Bool) := (sims_G1_0_9 x0 x1).1
theorem spec_slices_Equal_interchange_api_Record_interchange_api_Record (x0 : List Tapi_Record) (x1 : List Tapi_Record) : ∀ r, m_slices_Equal_interchange_api_Record_interchange_api_Record x0 x1 = some r → PureSpec Tryz.prog 16 [.slice (List.map rTapi_Record x0), .slice (List.map rTapi_Record x1)] (.bool r) := (sims_G1_0_9 x0 x1).2

/-- interchange/kit.IsMoment -/
def sc_kit_IsMoment : SC :=
  (.seq (.reg [.r 2 (.mv (.c (.d (.bool false))))])
  (.seq (.reg [.r 3 (.mv (.t 0)),
     .c 4 (.f 44) [.t 3, .c (.d (.int .i64 0)), .c (.d (.int .i64 1000000000000000))],
     .r 5 (.not (.t 4)),
     .r 2 (.mv (.t 5))])
  .ret))
theorem fit_kit_IsMoment : fits Tryz.prog 102 Tryz.f102 sc_kit_IsMoment [.t 2] 1 = true := by kernel_rfl

set_option maxRecDepth 100000 in
set_option maxHeartbeats 40000000 in
noncomputable def sims_G1_1_0 : (∀ (x0 : Int), {m : Option (Bool) // ∀ r, m = some r → PureSpec Tryz.prog 102 [.int .i64 x0] (.bool r)}) := by
  (intro x0; apply Subtype.mk; intro r hm; apply pure_walk Tryz.func102 fit_kit_IsMoment; unfold sc_kit_IsMoment)
  repeat' (first | with_reducible refine W_seq ?_ | with_reducible refine W_reg ?_ | with_reducible refine W_block ?_ | with_reducible refine W_skip ?_ | with_reducible refine W_ret ?_ | with_reducible refine W_exit ?_ | with_reducible refine O_nil ?_ | with_reducible refine K_seq ?_ | with_reducible refine K_seqE ?_ | with_reducible refine K_seqR ?_ | with_reducible refine K_block ?_ | with_reducible refine K_blockR ?_ | with_reducible refine K_blockE ?_ | ((with_reducible apply K_blockN); decide) | ((with_reducible apply O_r); (simp only [push_cast, seval]; rfl); (first | exact trivial | omega)) | ((with_reducible apply W_condT); (focus (simp only [push_cast, seval]; done))) | ((with_reducible apply W_condF); (focus (simp only [push_cast, seval]; done))) | ((with_reducible apply O_cF hm); (simp only [push_cast, seval]; rfl); (first | apply spec_kit_Outside _ _ _); (any_goals ((repeat' (first | rfl | (with_reducible first | apply f_optN | apply f_optS | apply f_some | apply f_tup | apply f_agg | apply f_ptr | apply f_fn | apply dv_slice | apply sv_d | apply f_cons | apply fold_nil | apply fold_cons | apply fold_app | apply f_rowI | apply f_rowY | apply f_rowS | apply f_rowB | apply f_rowL) | (with_reducible apply f_byte; decide))); done)); intro x hm) | ((with_reducible apply S_condB hm); (simp only [push_cast, seval]; rfl); intro hm; rotate_left; intro hm) | ((with_reducible apply K_endS hm); (focus (simp only [resOf, resL, RV.get, push_cast, seval]; rfl)); (focus ((repeat' (first | rfl | (with_reducible first | apply f_optN | apply f_optS | apply f_some | apply f_tup | apply f_agg | apply f_ptr | apply f_fn | apply dv_slice | apply sv_d | apply f_cons | apply fold_nil | apply fold_cons | apply fold_app | apply f_rowI | apply f_rowY | apply f_rowS | apply f_rowB | apply f_rowL) | (with_reducible apply f_byte; decide))); done))))
noncomputable def m_kit_IsMoment (x0 : Int) : Option (Bool) := (sims_G1_1_0 x0).1
theorem spec_kit_IsMoment (x0 : Int) : ∀ r, m_kit_IsMoment x0 = some r → PureSpec Tryz.prog 102 [.int .i64 x0] (.bool r) := (sims_G1_1_0 x0).2

/-- slices.Contains[[]string,string] -/
def sc_slices_Contains_string_string : SC :=
  (.seq (.reg [.r 4 (.mv (.c (.d (.bool false))))])
  (.seq (.reg [.r 5 (.mv (.t 0)),
     .r 6 (.mv (.t 1)),
     .c 7 (.f 106) [.t 5, .t 6],
     .r 8 (.bin .geq (.t 7) (.c (.d (.int .i64 0)))),
     .r 4 (.mv (.t 8))])
  .ret))
theorem fit_slices_Contains_string_string : fits Tryz.prog 88 Tryz.f88 sc_slices_Contains_string_string [.t 4] 2 = true := by kernel_rfl

set_option maxRecDepth 100000 in
set_option maxHeartbeats 40000000 in
noncomputable def sims_G1_1_1 : (∀ (x0 : List (List UInt8)) (x1 : List UInt8), {m : Option (Bool) // ∀ r, m = some r → PureSpec Tryz.prog 88 [.slice (List.map rowS x0), .str x1] (.bool r)}) := by
  (intro x0 x1; apply Subtype.mk; intro r hm; apply pure_walk Tryz.func88 fit_slices_Contains_string_string; unfold sc_slices_Contains_string_string)
  repeat' (first | with_reducible refine W_seq ?_ | with_reducible refine W_reg ?_ | with_reducible refine W_block ?_ | with_reducible refine W_skip ?_ | with_reducible refine W_ret ?_ | with_reducible refine W_exit ?_ | with_reducible refine O_nil ?_ | with_reducible refine K_seq ?_ | with_reducible refine K_seqE ?_ | with_reducible refine K_seqR ?_ | with_reducible refine K_block ?_ | with_reducible refine K_blockR ?_ | with_reducible refine K_blockE ?_ | ((with_reducible apply K_blockN); decide) | ((with_reducible apply O_r); (simp only [push_cast, seval]; rfl); (first | exact trivial | omega)) | ((with_reducible apply W_condT); (focus (simp only [push_cast, seval]; done))) | ((with_reducible apply W_condF); (focus (simp only [push_cast, seval]; done))) | ((with_reducible apply O_cF hm); (simp only [push_cast, seval]; rfl); (first | apply spec_slices_Index_string_string _ _); (any_goals ((repeat' (first | rfl | (with_reducible first | apply f_optN | apply f_optS | apply f_some | apply f_tup | apply f_agg | apply f_ptr | apply f_fn | apply dv_slice | apply sv_d | apply f_cons | apply fold_nil | apply fold_cons | apply fold_app | apply f_rowI | apply f_rowY | apply f_rowS | apply f_rowB | apply f_rowL) | (with_reducible apply f_byte; decide))); done)); intro x hm) | ((with_reducible apply S_condB hm); (simp only [push_cast, seval]; rfl); intro hm; rotate_left; intro hm) | ((with_reducible apply K_endS hm); (focus (simp only [resOf, resL, RV.get, push_cast, seval]; rfl)); (focus ((repeat' (first | rfl | (with_reducible first | apply f_optN | apply f_optS | apply f_some | apply f_tup | apply f_agg | apply f_ptr | apply f_fn | apply dv_slice | apply sv_d | apply f_cons | apply fold_nil | apply fold_cons | apply fold_app | apply f_rowI | apply f_rowY | apply f_rowS | apply f_rowB | apply f_rowL) | (with_reducible apply f_byte; decide))); done))))
noncomputable def m_slices_Contains_string_string (x0 : List (List UInt8)) (x1 : List UInt8) : Option (Bool) := (sims_G1_1_1 x0 x1).1
theorem spec_slices_Contains_string_string (x0 : List (List UInt8)) (x1 : List UInt8) : ∀ r, m_slices_Contains_string_string x0 x1 = some r → PureSpec Tryz.prog 88 [.slice (List.map rowS x0), .str x1] (.bool r) := (sims_G1_1_1 x0 x1).2

/-- slices.ContainsFunc[[]string,string] -/
def sc_slices_ContainsFunc_string_string : SC :=
  (.seq (.reg [.r 4 (.mv (.c (.d (.bool false))))])
  (.seq (.reg [.r 5 (.mv (.t 0)),
     .r 6 (.mv (.t 1)),
     .c 7 (.f 89) [.t 5, .t 6],
     .r 8 (.bin .geq (.t 7) (.c (.d (.int .i64 0)))),
     .r 4 (.mv (.t 8))])
  .ret))
theorem fit_slices_ContainsFunc_string_string : fits Tryz.prog 60 Tryz.f60 sc_slices_ContainsFunc_string_string [.t 4] 2 = true := by kernel_rfl

set_option maxRecDepth 100000 in
set_option maxHeartbeats 40000000 in
noncomputable def sims_G1_1_2 : (∀ (x0 : List (List UInt8)) (f1 : FuncId) (c1 : List DV) (p1 : (List UInt8) → Option (Bool)) (h1 : ∀ a0 r, p1 a0 = some r → PureSpec Tryz.prog f1 ([.str a0] ++ c1) (.bool r)), {m : Option (Bool) // ∀ r, m = some r → PureSpec Tryz.prog 60 [.slice (List.map rowS x0), .fn f1 c1] (.bool r)}) := by
  (intro x0 f1 c1 p1 h1; apply Subtype.mk; intro r hm; apply pure_walk Tryz.func60 fit_slices_ContainsFunc_string_string; unfold sc_slices_ContainsFunc_string_string)
  repeat' (first | with_reducible refine W_seq ?_ | with_reducible refine W_reg ?_ | with_reducible refine W_block ?_ | with_reducible refine W_skip ?_ | with_reducible refine W_ret ?_ | with_reducible refine W_exit ?_ | with_reducible refine O_nil ?_ | with_reducible refine K_seq ?_ | with_reducible refine K_seqE ?_ | with_reducible refine K_seqR ?_ | with_reducible refine K_block ?_ | with_reducible refine K_blockR ?_ | with_reducible refine K_blockE ?_ | ((with_reducible apply K_blockN); decide) | ((with_reducible apply O_r); (simp only [push_cast, seval]; rfl); (first | exact trivial | omega)) | ((with_reducible apply W_condT); (focus (simp only [push_cast, seval]; done))) | ((with_reducible apply W_condF); (focus (simp only [push_cast, seval]; done))) | ((with_reducible apply O_cF hm); (simp only [push_cast, seval]; rfl); (first | apply spec_slices_IndexFunc_string_string _ _ _ _ h1 | apply h1 _); (any_goals ((repeat' (first | rfl | (with_reducible first | apply f_optN | apply f_optS | apply f_some | apply f_tup | apply f_agg | apply f_ptr | apply f_fn | apply dv_slice | apply sv_d | apply f_cons | apply fold_nil | apply fold_cons | apply fold_app | apply f_rowI | apply f_rowY | apply f_rowS | apply f_rowB | apply f_rowL) | (with_reducible apply f_byte; decide))); done)); intro x hm) | ((with_reducible apply S_condB hm); (simp only [push_cast, seval]; rfl); intro hm; rotate_left; intro hm) | ((with_reducible apply K_endS hm); (focus (simp only [resOf, resL, RV.get, push_cast, seval]; rfl)); (focus ((repeat' (first | rfl | (with_reducible first | apply f_optN | apply f_optS | apply f_some | apply f_tup | apply f_agg | apply f_ptr | apply f_fn | apply dv_slice | apply sv_d | apply f_cons | apply fold_nil | apply fold_cons | apply fold_app | apply f_rowI | apply f_rowY | apply f_rowS | apply f_rowB | apply f_rowL) | (with_reducible apply f_byte; decide))); done))))
noncomputable def m_slices_ContainsFunc_string_string (x0 : List (List UInt8)) (f1 : FuncId) (c1 : List DV) (p1 : (List UInt8) → Option (Bool)) (h1 : ∀ a0 r, p1 a0 = some r → PureSpec Tryz.prog f1 ([.str a0] ++ c1) (.bool r)) : Option (Bool) := (sims_G1_1_2 x0 f1 c1 p1 h1).1
theorem spec_slices_ContainsFunc_string_string (x0 : List (List UInt8)) (f1 : FuncId) (c1 : List DV) (p1 : (List UInt8) → Option (Bool)) (h1 : ∀ a0 r, p1 a0 = some r → PureSpec Tryz.prog f1 ([.str a0] ++ c1) (.bool r)) : ∀ r, m_slices_ContainsFunc_string_string x0 f1 c1 p1 h1 = some r → PureSpec Tryz.prog 60 [.slice (List.map rowS x0), .fn f1 c1] (.bool r) := (sims_G1_1_2 x0 f1 c1 p1 h1).2

/-- interchange/desk.readRecord$1 -/
def sc_desk_readRecord_1 : SC :=
  (.seq (.reg [.r 2 (.mv (.c (.d (.bool false))))])
  (.seq (.reg [.r 3 (.mv (.t 0)),
     .c 4 (.f 62) [.t 3, .c (.d (.int .u8 33)), .c (.d (.int .u8 126))],
     .r 5 (.not (.t 4)),
     .r 2 (.mv (.t 5))])
  .ret))
theorem fit_desk_readRecord_1 : fits Tryz.prog 61 Tryz.f61 sc_desk_readRecord_1 [.t 2] 1 = true := by kernel_rfl

set_option maxRecDepth 100000 in
set_option maxHeartbeats 40000000 in
noncomputable def sims_G1_1_3 : (∀ (x0 : List UInt8), {m : Option (Bool) // ∀ r, m = some r → PureSpec Tryz.prog 61 [.str x0] (.bool r)}) := by
  (intro x0; apply Subtype.mk; intro r hm; apply pure_walk Tryz.func61 fit_desk_readRecord_1; unfold sc_desk_readRecord_1)
  repeat' (first | with_reducible refine W_seq ?_ | with_reducible refine W_reg ?_ | with_reducible refine W_block ?_ | with_reducible refine W_skip ?_ | with_reducible refine W_ret ?_ | with_reducible refine W_exit ?_ | with_reducible refine O_nil ?_ | with_reducible refine K_seq ?_ | with_reducible refine K_seqE ?_ | with_reducible refine K_seqR ?_ | with_reducible refine K_block ?_ | with_reducible refine K_blockR ?_ | with_reducible refine K_blockE ?_ | ((with_reducible apply K_blockN); decide) | ((with_reducible apply O_r); (simp only [push_cast, seval]; rfl); (first | exact trivial | omega)) | ((with_reducible apply W_condT); (focus (simp only [push_cast, seval]; done))) | ((with_reducible apply W_condF); (focus (simp only [push_cast, seval]; done))) | ((with_reducible apply O_cF hm); (simp only [push_cast, seval]; rfl); (first | apply spec_kit_InBytes _ _ _); (any_goals ((repeat' (first | rfl | (with_reducible first | apply f_optN | apply f_optS | apply f_some | apply f_tup | apply f_agg | apply f_ptr | apply f_fn | apply dv_slice | apply sv_d | apply f_cons | apply fold_nil | apply fold_cons | apply fold_app | apply f_rowI | apply f_rowY | apply f_rowS | apply f_rowB | apply f_rowL) | (with_reducible apply f_byte; decide))); done)); intro x hm) | ((with_reducible apply S_condB hm); (simp only [push_cast, seval]; rfl); intro hm; rotate_left; intro hm) | ((with_reducible apply K_endS hm); (focus (simp only [resOf, resL, RV.get, push_cast, seval]; rfl)); (focus ((repeat' (first | rfl | (with_reducible first | apply f_optN | apply f_optS | apply f_some | apply f_tup | apply f_agg | apply f_ptr | apply f_fn | apply dv_slice | apply sv_d | apply f_cons | apply fold_nil | apply fold_cons | apply fold_app | apply f_rowI | apply f_rowY | apply f_rowS | apply f_rowB | apply f_rowL) | (with_reducible apply f_byte; decide))); done))))
noncomputable def m_desk_readRecord_1 (x0 : List UInt8) : Option (Bool) := (sims_G1_1_3 x0).1
theorem spec_desk_readRecord_1 (x0 : List UInt8) : ∀ r, m_desk_readRecord_1 x0 = some r → PureSpec Tryz.prog 61 [.str x0] (.bool r) := (sims_G1_1_3 x0).2

/-- interchange/kit.IsDigits -/
def sc_kit_IsDigits : SC :=
  (.seq (.reg [.r 2 (.mv (.c (.d (.bool false))))])
  (.seq (.reg (.r 3 (.mv (.t 0)) :: .r 4 (.bin .neq (.t 3) (.c (.d (.str [])))) :: .r 5 (.mv (.t 4)) :: gapp [6, 7] 5 true (.r 6 (.mv (.t 0)) :: .c 7 (.f 62) [.t 6, .c (.d (.int .u8 48)), .c (.d (.int .u8 57))] :: []) (.r 8 (.pick (.t 5) (.t 7) (.c (.d (.bool false)))) :: .r 2 (.mv (.t 8)) :: [])))
  .ret))
theorem fit_kit_IsDigits : fits Tryz.prog 72 Tryz.f72 sc_kit_IsDigits [.t 2] 1 = true := by kernel_rfl

set_option maxRecDepth 100000 in
set_option maxHeartbeats 40000000 in
noncomputable def sims_G1_1_4 : (∀ (x0 : List UInt8), {m : Option (Bool) // ∀ r, m = some r → PureSpec Tryz.prog 72 [.str x0] (.bool r)}) := by
  (intro x0; apply Subtype.mk; intro r hm; apply pure_walk Tryz.func72 fit_kit_IsDigits; unfold sc_kit_IsDigits)
  repeat' (first | with_reducible refine W_seq ?_ | with_reducible refine W_reg ?_ | with_reducible refine W_block ?_ | with_reducible refine W_skip ?_ | with_reducible refine W_ret ?_ | with_reducible refine W_exit ?_ | with_reducible refine O_nil ?_ | with_reducible refine K_seq ?_ | with_reducible refine K_seqE ?_ | with_reducible refine K_seqR ?_ | with_reducible refine K_block ?_ | with_reducible refine K_blockR ?_ | with_reducible refine K_blockE ?_ | ((with_reducible apply K_blockN); decide) | ((with_reducible apply O_r); (simp only [push_cast, seval]; rfl); (first | exact trivial | omega)) | ((with_reducible apply O_and hm); (simp only [push_cast, seval]; rfl); rfl; intro v hm; rotate_left; intro v g hm) | ((with_reducible apply W_condT); (focus (simp only [push_cast, seval]; done))) | ((with_reducible apply W_condF); (focus (simp only [push_cast, seval]; done))) | ((with_reducible apply O_cF hm); (simp only [push_cast, seval]; rfl); (first | apply spec_kit_InBytes _ _ _); (any_goals ((repeat' (first | rfl | (with_reducible first | apply f_optN | apply f_optS | apply f_some | apply f_tup | apply f_agg | apply f_ptr | apply f_fn | apply dv_slice | apply sv_d | apply f_cons | apply fold_nil | apply fold_cons | apply fold_app | apply f_rowI | apply f_rowY | apply f_rowS | apply f_rowB | apply f_rowL) | (with_reducible apply f_byte; decide))); done)); intro x hm) | ((with_reducible apply S_condB hm); (simp only [push_cast, seval]; rfl); intro hm; rotate_left; intro hm) | ((with_reducible apply K_endS hm); (focus (simp only [resOf, resL, RV.get, push_cast, seval]; rfl)); (focus ((repeat' (first | rfl | (with_reducible first | apply f_optN | apply f_optS | apply f_some | apply f_tup | apply f_agg | apply f_ptr | apply f_fn | apply dv_slice | apply sv_d | apply f_cons | apply fold_nil | apply fold_cons | apply fold_app | apply f_rowI | apply f_rowY | apply f_rowS | apply f_rowB | apply f_rowL) | (with_reducible apply f_byte; decide))); done))) | ((with_reducible apply K_bool hm); (simp only [push_cast, seval]; rfl)))
noncomputable def m_kit_IsDigits (x0 : List UInt8) : Option (Bool) := (sims_G1_1_4 x0).1
theorem spec_kit_IsDigits (x0 : List UInt8) : ∀ r, m_kit_IsDigits x0 = some r → PureSpec Tryz.prog 72 [.str x0] (.bool r) := (sims_G1_1_4 x0).2

def sc_desk_headOf_L1 : SC :=
  (.seq (.reg [.r 10 (.bin .lss (.t 9) (.t 8))])
  (.seq (.cond (.t 10)
    .skip
    (.exit 0))
  (.seq (.block 1 (.seq (.reg [.r 11 (.idx 6 (.t 7) (.t 9)),
       .o 12 (.ldA 6 (.t 11)),
       .w 5 (.boxM (.c (.agg [.d (.int .i64 0), .d (.str []), .d (.str []), .d (.str []), .d (.bool false), .d (.str [])]))),
       .w 0 (.st 6 (.t 5) (.t 12))])
    (.reg [.r 13 (.mv (.t 3)),
       .r 14 (.bin .add (.t 13) (.c (.d (.str [32])))),
       .o 15 (.ldA 6 (.t 5)),
       .c 16 (.f 32) [.t 15],
       .r 17 (.bin .add (.t 14) (.t 16)),
       .r 18 (.cvsb (.t 17)),
       .c 19 (.f 83) [.t 18],
       .r 3 (.mv (.t 19))])))
  (.reg [.r 20 (.bin .add (.t 9) (.c (.d (.int .i64 1)))),
     .r 9 (.mv (.t 20))]))))
def sc_desk_headOf_B1 : SC := .block 0 (.loop sc_desk_headOf_L1)
/-- interchange/desk.headOf -/
def sc_desk_headOf : SC :=
  (.seq (.reg [.r 2 (.mv (.c (.d (.str []))))])
  (.seq (.reg [.c 6 (.f 91) [.c (.d (.str [48])), .c (.d (.int .i64 16))],
     .r 3 (.mv (.t 6))])
  (.seq (.seq (.reg [.r 7 (.mv (.t 0)),
     .r 8 (.len (.t 7)),
     .r 9 (.mv (.c (.d (.int .i64 0))))])
  sc_desk_headOf_B1)
  (.seq (.reg [.r 21 (.mv (.t 3)),
     .r 2 (.mv (.t 21))])
  .ret))))
theorem fit_desk_headOf : fits Tryz.prog 64 Tryz.f64 sc_desk_headOf [.t 2] 1 = true := by kernel_rfl

set_option maxRecDepth 100000 in
set_option maxHeartbeats 40000000 in
noncomputable def sims_G1_1_5 : (∀ (x0 : List Tapi_Record), {m : Option ((List UInt8)) // ∀ r, m = some r → PureSpec Tryz.prog 64 [.slice (List.map rTapi_Record x0)] (.str r)}) := by
  (intro x0; apply Subtype.mk; intro r hm; apply pure_walk Tryz.func64 fit_desk_headOf; unfold sc_desk_headOf)
  repeat' (first | with_reducible refine W_seq ?_ | with_reducible refine W_reg ?_ | with_reducible refine W_block ?_ | with_reducible refine W_skip ?_ | with_reducible refine W_ret ?_ | with_reducible refine W_exit ?_ | with_reducible refine O_nil ?_ | with_reducible refine K_seq ?_ | with_reducible refine K_seqE ?_ | with_reducible refine K_seqR ?_ | with_reducible refine K_block ?_ | with_reducible refine K_blockR ?_ | with_reducible refine K_blockE ?_ | ((with_reducible apply K_blockN); decide) | with_reducible refine O_o2r ?_ | ((with_reducible apply O_idxr hm); (iterate 2 (simp only [push_cast, seval]; rfl)); (intro _; rfl); intro e hm) | ((with_reducible apply O_idxVr hm); (iterate 3 (simp only [push_cast, seval]; rfl)); intro e hm) | ((with_reducible apply O_cvsb); (simp only [push_cast, seval]; rfl)) | ((with_reducible apply O_r); (simp only [push_cast, seval]; rfl); (first | exact trivial | omega)) | ((with_reducible apply O_ldV1r hm); (iterate 2 (simp only [push_cast, seval]; rfl)); (intro _; rfl); intro e hm) | ((with_reducible apply O_ldAVr hm); (iterate 2 (simp only [push_cast, seval]; rfl)); (intro _; rfl); intro e hm) | ((with_reducible apply O_strr hm); (iterate 2 (simp only [push_cast, seval]; rfl)); intro hm) | ((with_reducible apply W_condT); (focus (simp only [push_cast, seval]; done))) | ((with_reducible apply W_condF); (focus (simp only [push_cast, seval]; done))) | ((with_reducible apply O_cF hm); (simp only [push_cast, seval]; rfl); (first | apply spec_strings_Repeat _ _ | apply spec_desk_body _ | apply spec_partner_Digest _); (any_goals ((repeat' (first | rfl | (with_reducible first | apply fT_Tapi_Record | apply f_optN | apply f_optS | apply f_some | apply f_tup | apply f_agg | apply f_ptr | apply f_fn | apply dv_slice | apply sv_d | apply f_cons | apply fold_nil | apply fold_cons | apply fold_app | apply f_rowI | apply f_rowY | apply f_rowS | apply f_rowB | apply f_rowL) | (with_reducible apply f_byte; decide))); done)); intro x hm) | ((with_reducible apply O_w); (simp only [push_cast, seval]; rfl); (first | exact trivial | omega)) | ((with_reducible apply O_stVA hm); (iterate 4 (simp only [push_cast, seval]; rfl)); (focus ((repeat' (first | rfl | (with_reducible first | apply fT_Tapi_Record | apply f_optN | apply f_optS | apply f_some | apply f_tup | apply f_agg | apply f_ptr | apply f_fn | apply dv_slice | apply sv_d | apply f_cons | apply fold_nil | apply fold_cons | apply fold_app | apply f_rowI | apply f_rowY | apply f_rowS | apply f_rowB | apply f_rowL) | (with_reducible apply f_byte; decide))); done)); decide; (intro _; rfl); intro e hm) | ((with_reducible apply S_condB hm); (simp only [push_cast, seval]; rfl); intro hm; rotate_left; intro hm) | ((with_reducible apply K_endS hm); (focus (simp only [resOf, resL, RV.get, push_cast, seval]; rfl)); (focus ((repeat' (first | rfl | (with_reducible first | apply fT_Tapi_Record | apply f_optN | apply f_optS | apply f_some | apply f_tup | apply f_agg | apply f_ptr | apply f_fn | apply dv_slice | apply sv_d | apply f_cons | apply fold_nil | apply fold_cons | apply fold_app | apply f_rowI | apply f_rowY | apply f_rowS | apply f_rowB | apply f_rowL) | (with_reducible apply f_byte; decide))); done))) | ((with_reducible apply K_leave hm); intro r hm) | ((with_reducible apply K_leaveR hm); intro r hm) | ((apply S_loopY (b := 0) (X := sc_desk_headOf_B1) (x := sc_desk_headOf_L1) rfl (fun (c : SV × SV) (s : (List UInt8) × Int) => st [(3, .d (.str s.1)), (7, c.1), (8, c.2), (9, .d (.int .i64 s.2))] []) (c := (_, _)) (s0 := (_, _)) hm); (focus (first | (dsimp only; done) | (dsimp only; rfl) | rfl)); (with_reducible refine Then.mk ?_ ?_)) | ((apply K_next (s' := (_, _)) hm); (focus (first | (dsimp only; done) | (dsimp only; rfl) | rfl))) | ((apply K_brk (s' := (_, _)) hm); (focus (first | (dsimp only; done) | (dsimp only; rfl) | rfl))) | (((with_reducible apply K_brkN hm); (focus decide); intro r hm)) | (((with_reducible apply K_brkR hm); intro r hm)) | (((with_reducible apply LoopB.of); (focus (first | (dsimp only; done) | (dsimp only; rfl) | rfl)); (focus ((intro _; repeat' (first | with_reducible exact impC_end | with_reducible exact impC_endF | with_reducible refine impC_seq ?_ | with_reducible refine impC_block ?_ | ((with_reducible refine impC_rnd ?_); intro _) | ((with_reducible refine impC_brk ?_); intro _))))); (intro s o hm; first | unfold sc_desk_headOf_L1); rotate_left; intro s hm)) | (((apply imp_stT; (repeat' (first | with_reducible exact keepT_nil | with_reducible exact keepC_nil | with_reducible apply keepT_cons | with_reducible apply keepC_cons | ((with_reducible apply svle_eq); (focus (first | (simp only [push_cast, seval]; rfl) | rfl)); (focus ((repeat' (first | rfl | (with_reducible first | apply fT_Tapi_Record | apply f_optN | apply f_optS | apply f_some | apply f_tup | apply f_agg | apply f_ptr | apply f_fn | apply dv_slice | apply sv_d | apply f_cons | apply fold_nil | apply fold_cons | apply fold_app | apply f_rowI | apply f_rowY | apply f_rowS | apply f_rowB | apply f_rowL) | (with_reducible apply f_byte; decide))); done))) | ((with_reducible apply svle_td); (focus (first | (simp only [push_cast, seval]; rfl) | rfl)); (focus (first | (simp only [push_cast, seval]; rfl) | rfl)); (focus ((repeat' (first | rfl | (with_reducible first | apply fT_Tapi_Record | apply f_optN | apply f_optS | apply f_some | apply f_tup | apply f_agg | apply f_ptr | apply f_fn | apply dv_slice | apply sv_d | apply f_cons | apply fold_nil | apply fold_cons | apply fold_app | apply f_rowI | apply f_rowY | apply f_rowS | apply f_rowB | apply f_rowL) | (with_reducible apply f_byte; decide))); done))) | ((with_reducible apply chle_eq); (focus (first | (simp only [push_cast, seval]; rfl) | rfl)); (first | with_reducible exact chle_rfl rfl | with_reducible exact chle_map0 | with_reducible apply chle_vec | with_reducible apply chle_box)) | (with_reducible first | apply cT_Tapi_Record | apply r_shS | apply r_shI | apply r_rflO | apply r_oneO | apply r_appO | apply r_nilO | apply c_ownN | apply c_ownL | apply vc_rfl | apply vc_nil | apply vc_cons | apply r_rfl | apply r_rows | apply r_nil | apply r_app | apply r_cons | apply c_rowI | apply c_rowY | apply c_rowS | apply c_rowB | apply c_rowL))); done))))
noncomputable def m_desk_headOf (x0 : List Tapi_Record) : Option ((List UInt8)) := (sims_G1_1_5 x0).1
theorem spec_desk_headOf (x0 : List Tapi_Record) : ∀ r, m_desk_headOf x0 = some r → PureSpec Tryz.prog 64 [.slice (List.map rTapi_Record x0)] (.str r) := (sims_G1_1_5 x0).2

/-- interchange/desk.fieldsFault -/
def sc_desk_fieldsFault : SC :=
  (.seq (.reg [.r 8 (.mv (.c (.d (.int .i64 0))))])
  (.seq (.block 0 (.seq (.reg [.r 10 (.mv (.t 0)),
       .c 11 (.f 102) [.t 10],
       .r 12 (.not (.t 11)),
       .r 9 (.mv (.t 12))])
    (.cond (.t 9)
      (.seq (.reg [.r 8 (.mv (.c (.d (.int .i64 1))))])
      .ret)
      (.seq (.reg [.r 14 (.mv (.t 1)),
         .c 15 (.f 68) [.t 14],
         .r 16 (.not (.t 15)),
         .r 13 (.mv (.t 16))])
      (.cond (.t 13)
        (.seq (.reg [.r 8 (.mv (.c (.d (.int .i64 5))))])
        .ret)
        (.seq (.reg (.r 18 (.mv (.t 2)) :: .r 19 (.lenT (.t 18)) :: .r 20 (.bin .lss (.t 19) (.c (.d (.int .i64 1)))) :: .r 21 (.mv (.t 20)) :: gapp [22, 23, 24] 21 false (.r 22 (.mv (.t 2)) :: .r 23 (.lenT (.t 22)) :: .r 24 (.bin .gtr (.t 23) (.c (.d (.int .i64 40)))) :: []) (.r 25 (.pick (.t 21) (.c (.d (.bool true))) (.t 24)) :: .r 26 (.mv (.t 25)) :: gapp [27, 28, 29] 26 false (.r 27 (.mv (.t 2)) :: .c 28 (.f 62) [.t 27, .c (.d (.int .u8 33)), .c (.d (.int .u8 126))] :: .r 29 (.not (.t 28)) :: []) (.r 30 (.pick (.t 26) (.c (.d (.bool true))) (.t 29)) :: .r 17 (.mv (.t 30)) :: []))))
        (.cond (.t 17)
          (.seq (.reg [.r 8 (.mv (.c (.d (.int .i64 3))))])
          .ret)
          (.seq (.reg [.r 32 (.mv (.t 3)),
             .r 33 (.lenT (.t 32)),
             .r 34 (.bin .gtr (.t 33) (.c (.d (.int .i64 2000)))),
             .r 31 (.mv (.t 34))])
          (.cond (.t 31)
            (.seq (.reg [.r 8 (.mv (.c (.d (.int .i64 2))))])
            .ret)
            (.seq (.reg [.r 36 (.mv (.t 3)),
               .c 37 (.f 62) [.t 36, .c (.d (.int .u8 32)), .c (.d (.int .u8 126))],
               .r 38 (.not (.t 37)),
               .r 35 (.mv (.t 38))])
            (.cond (.t 35)
              (.seq (.reg [.r 8 (.mv (.c (.d (.int .i64 3))))])
              .ret)
              .skip)))))))))))
  (.seq (.reg [.r 8 (.mv (.c (.d (.int .i64 0))))])
  .ret)))
theorem fit_desk_fieldsFault : fits Tryz.prog 81 Tryz.f81 sc_desk_fieldsFault [.t 8] 4 = true := by kernel_rfl

set_option maxRecDepth 100000 in
set_option maxHeartbeats 40000000 in
noncomputable def sims_G1_2_0 : (∀ (x0 : Int) (x1 : List UInt8) (x2 : List UInt8) (x3 : List UInt8), {m : Option (Int) // ∀ r, m = some r → PureSpec Tryz.prog 81 [.int .i64 x0, .str x1, .str x2, .str x3] (.int .i64 r)}) := by
  (intro x0 x1 x2 x3; apply Subtype.mk; intro r hm; apply pure_walk Tryz.func81 fit_desk_fieldsFault; unfold sc_desk_fieldsFault)
  repeat' (first | with_reducible refine W_seq ?_ | with_reducible refine W_reg ?_ | with_reducible refine W_block ?_ | with_reducible refine W_skip ?_ | with_reducible refine W_ret ?_ | with_reducible refine W_exit ?_ | with_reducible refine O_nil ?_ | with_reducible refine K_seq ?_ | with_reducible refine K_seqE ?_ | with_reducible refine K_seqR ?_ | with_reducible refine K_block ?_ | with_reducible refine K_blockR ?_ | with_reducible refine K_blockE ?_ | ((with_reducible apply K_blockN); decide) | ((with_reducible apply O_r); (simp only [push_cast, seval]; rfl); (first | exact trivial | omega)) | ((with_reducible apply O_or hm); (simp only [push_cast, seval]; rfl); rfl; intro v hm; rotate_left; intro v g hm) | ((with_reducible apply W_condT); (focus (simp only [push_cast, seval]; done))) | ((with_reducible apply W_condF); (focus (simp only [push_cast, seval]; done))) | ((with_reducible apply O_cF hm); (simp only [push_cast, seval]; rfl); (first | apply spec_kit_IsMoment _ | apply spec_kit_IsName _ | apply spec_kit_InBytes _ _ _); (any_goals ((repeat' (first | rfl | (with_reducible first | apply f_optN | apply f_optS | apply f_some | apply f_tup | apply f_agg | apply f_ptr | apply f_fn | apply dv_slice | apply sv_d | apply f_cons | apply fold_nil | apply fold_cons | apply fold_app | apply f_rowI | apply f_rowY | apply f_rowS | apply f_rowB | apply f_rowL) | (with_reducible apply f_byte; decide))); done)); intro x hm) | ((with_reducible apply S_condB hm); (simp only [push_cast, seval]; rfl); intro hm; rotate_left; intro hm) | ((with_reducible apply K_endS hm); (focus (simp only [resOf, resL, RV.get, push_cast, seval]; rfl)); (focus ((repeat' (first | rfl | (with_reducible first | apply f_optN | apply f_optS | apply f_some | apply f_tup | apply f_agg | apply f_ptr | apply f_fn | apply dv_slice | apply sv_d | apply f_cons | apply fold_nil | apply fold_cons | apply fold_app | apply f_rowI | apply f_rowY | apply f_rowS | apply f_rowB | apply f_rowL) | (with_reducible apply f_byte; decide))); done))) | ((with_reducible apply K_bool hm); (simp only [push_cast, seval]; rfl)))
noncomputable def m_desk_fieldsFault (x0 : Int) (x1 : List UInt8) (x2 : List UInt8) (x3 : List UInt8) : Option (Int) := (sims_G1_2_0 x0 x1 x2 x3).1
theorem spec_desk_fieldsFault (x0 : Int) (x1 : List UInt8) (x2 : List UInt8) (x3 : List UInt8) : ∀ r, m_desk_fieldsFault x0 x1 x2 x3 = some r → PureSpec Tryz.prog 81 [.int .i64 x0, .str x1, .str x2, .str x3] (.int .i64 r) := (sims_G1_2_0 x0 x1 x2 x3).2

/-- interchange/desk.head -/
def sc_desk_head : SC :=
  (.seq (.reg [.r 4 (.mv (.c (.nils))),
     .r 5 (.mv (.c (.d (.str [])))),
     .r 6 (.mv (.c (.d (.bool false))))])
  (.seq (.reg [.r 8 (.mv (.t 0)),
     .r 9 (.mv (.t 1)),
     .r 10 (.bin .add (.t 9) (.c (.d (.int .i64 1)))),
     .c 11 (.f 87) [.t 8, .c (.d (.str [32])), .t 10],
     .r 7 (.mv (.t 11))])
  (.seq (.seq (.reg (.r 12 (.mv (.t 7)) :: .r 13 (.len (.t 12)) :: .r 14 (.mv (.t 1)) :: .r 15 (.bin .add (.t 14) (.c (.d (.int .i64 1)))) :: .r 16 (.bin .neq (.t 13) (.t 15)) :: .r 17 (.mv (.t 16)) :: gapp [18, 19, 20, 21, 22] 17 false (.r 18 (.mv (.t 7)) :: .r 19 (.mv (.t 1)) :: .r 20 (.idx 1 (.t 18) (.t 19)) :: .r 21 (.ld1 (.t 20)) :: .r 22 (.bin .eql (.t 21) (.c (.d (.str [])))) :: []) (.r 23 (.pick (.t 17) (.c (.d (.bool true))) (.t 22)) :: .r 24 (.mv (.t 23)) :: gapp [25, 26, 27, 28] 24 false (.r 25 (.mv (.t 7)) :: .r 26 (.mv (.t 1)) :: .r 27 (.slc 1 (.t 25) none (some (.t 26))) :: .c 28 (.f 88) [.t 27, .c (.d (.str []))] :: []) (.r 29 (.pick (.t 24) (.c (.d (.bool true))) (.t 28)) :: []))))
  (.cond (.t 29)
    (.seq (.reg [.r 4 (.mv (.c (.nils))),
       .r 5 (.mv (.c (.d (.str [])))),
       .r 6 (.mv (.c (.d (.bool false))))])
    .ret)
    .skip))
  (.seq (.regD [.r 30 (.mv (.t 7)),
     .r 31 (.mv (.t 1)),
     .r 32 (.slc 1 (.t 30) none (some (.t 31))),
     .r 33 (.mv (.t 7)),
     .r 34 (.mv (.t 1)),
     .r 35 (.idx 1 (.t 33) (.t 34)),
     .r 36 (.ld1 (.t 35)),
     .r 4 (.mv (.t 32)),
     .r 5 (.mv (.t 36)),
     .r 6 (.mv (.c (.d (.bool true))))])
  .ret))))
theorem fit_desk_head : fits Tryz.prog 59 Tryz.f59 sc_desk_head [.t 4, .t 5, .t 6] 2 = true := by kernel_rfl

set_option maxRecDepth 100000 in
set_option maxHeartbeats 40000000 in
noncomputable def sims_G1_2_1 : (∀ (x0 : List UInt8) (x1 : Int), {m : Option ((List (List UInt8)) × (List UInt8) × Bool) // ∀ r, m = some r → PureSpec Tryz.prog 59 [.str x0, .int .i64 x1] (.tup [.slice (List.map rowS r.1), .str r.2.1, .bool r.2.2])}) := by
  (intro x0 x1; apply Subtype.mk; intro r hm; apply pure_walk Tryz.func59 fit_desk_head; unfold sc_desk_head)
  repeat' (first | with_reducible refine W_seq ?_ | with_reducible refine W_reg ?_ | with_reducible refine W_regD ?_ | with_reducible refine W_block ?_ | with_reducible refine W_skip ?_ | with_reducible refine W_ret ?_ | with_reducible refine W_exit ?_ | with_reducible refine O_nil ?_ | with_reducible refine K_seq ?_ | with_reducible refine K_seqE ?_ | with_reducible refine K_seqR ?_ | with_reducible refine K_block ?_ | with_reducible refine K_blockR ?_ | with_reducible refine K_blockE ?_ | ((with_reducible apply K_blockN); decide) | ((with_reducible apply O_idxr hm); (iterate 2 (simp only [push_cast, seval]; rfl)); (intro _; rfl); intro e hm) | ((with_reducible apply O_idxVr hm); (iterate 3 (simp only [push_cast, seval]; rfl)); intro e hm) | ((with_reducible apply O_slcr hm); (iterate 3 (simp only [push_cast, seval]; rfl)); (intro _; rfl); intro e hm) | ((with_reducible apply O_r); (simp only [push_cast, seval]; rfl); (first | exact trivial | omega)) | ((with_reducible apply O_ldV1r hm); (iterate 2 (simp only [push_cast, seval]; rfl)); (intro _; rfl); intro e hm) | ((with_reducible apply O_strr hm); (iterate 2 (simp only [push_cast, seval]; rfl)); intro hm) | ((with_reducible apply O_or hm); (simp only [push_cast, seval]; rfl); rfl; intro v hm; rotate_left; intro v g hm) | ((with_reducible apply W_condT); (focus (simp only [push_cast, seval]; done))) | ((with_reducible apply W_condF); (focus (simp only [push_cast, seval]; done))) | ((with_reducible apply O_cF hm); (simp only [push_cast, seval]; rfl); (first | apply spec_strings_SplitN _ _ _ | apply spec_slices_Contains_string_string _ _); (any_goals ((repeat' (first | rfl | (with_reducible first | apply f_optN | apply f_optS | apply f_some | apply f_tup | apply f_agg | apply f_ptr | apply f_fn | apply dv_slice | apply sv_d | apply f_cons | apply fold_nil | apply fold_cons | apply fold_app | apply f_rowI | apply f_rowY | apply f_rowS | apply f_rowB | apply f_rowL) | (with_reducible apply f_byte; decide))); done)); intro x hm) | ((with_reducible apply S_condB hm); (simp only [push_cast, seval]; rfl); intro hm; rotate_left; intro hm) | ((with_reducible apply K_end3 hm); (focus (simp only [resOf, resL, RV.get, push_cast, seval]; rfl)); (focus (first | (dsimp only; done) | (dsimp only; rfl) | rfl)); (focus ((repeat' (first | rfl | (with_reducible first | apply f_optN | apply f_optS | apply f_some | apply f_tup | apply f_agg | apply f_ptr | apply f_fn | apply dv_slice | apply sv_d | apply f_cons | apply fold_nil | apply fold_cons | apply fold_app | apply f_rowI | apply f_rowY | apply f_rowS | apply f_rowB | apply f_rowL) | (with_reducible apply f_byte; decide))); done))) | ((with_reducible apply K_bool hm); (simp only [push_cast, seval]; rfl)))
noncomputable def m_desk_head (x0 : List UInt8) (x1 : Int) : Option ((List (List UInt8)) × (List UInt8) × Bool) := (sims_G1_2_1 x0 x1).1
theorem spec_desk_head (x0 : List UInt8) (x1 : Int) : ∀ r, m_desk_head x0 x1 = some r → PureSpec Tryz.prog 59 [.str x0, .int .i64 x1] (.tup [.slice (List.map rowS r.1), .str r.2.1, .bool r.2.2]) := (sims_G1_2_1 x0 x1).2

/-- interchange/kit.Number -/
def sc_kit_Number : SC :=
  (.seq (.reg [.r 4 (.mv (.c (.d (.int .i64 0)))),
     .r 5 (.mv (.c (.d (.bool false))))])
  (.seq (.seq (.reg (.r 8 (.mv (.t 0)) :: .r 9 (.lenT (.t 8)) :: .r 10 (.mv (.t 1)) :: .r 11 (.bin .gtr (.t 9) (.t 10)) :: .r 12 (.mv (.t 11)) :: gapp [13, 14, 15] 12 false (.r 13 (.mv (.t 0)) :: .c 14 (.f 72) [.t 13] :: .r 15 (.not (.t 14)) :: []) (.r 16 (.pick (.t 12) (.c (.d (.bool true))) (.t 15)) :: .r 17 (.mv (.t 16)) :: gapp [18, 19, 20, 21, 22, 23, 24, 25] 17 false (.r 18 (.mv (.t 0)) :: .r 19 (.lenT (.t 18)) :: .r 20 (.bin .gtr (.t 19) (.c (.d (.int .i64 1)))) :: .r 21 (.mv (.t 20)) :: gapp [22, 23, 24] 21 true (.r 22 (.mv (.t 0)) :: .r 23 (.sidx (.t 22) (.c (.d (.int .i64 0)))) :: .r 24 (.bin .eql (.t 23) (.c (.d (.int .u8 48)))) :: []) (.r 25 (.pick (.t 21) (.t 24) (.c (.d (.bool false)))) :: [])) (.r 26 (.pick (.t 17) (.c (.d (.bool true))) (.t 25)) :: []))))
  (.cond (.t 26)
    (.seq (.reg [.r 4 (.mv (.c (.d (.int .i64 0)))),
       .r 5 (.mv (.c (.d (.bool false))))])
    .ret)
    .skip))
  (.seq (.reg [.r 28 (.mv (.t 0)),
     .c 29 (.f 73) [.t 28],
     .r 27 (.mv (.t 29)),
     .r 30 (.ext (.t 27) 0),
     .r 31 (.ext (.t 27) 1),
     .r 6 (.mv (.t 30)),
     .r 7 (.mv (.t 31))])
  (.seq (.regD [.r 32 (.mv (.t 6)),
     .r 33 (.mv (.t 7)),
     .r 34 (.binI .eql (.t 33) (.c (.d (.raw .nilIface)))),
     .r 4 (.mv (.t 32)),
     .r 5 (.mv (.t 34))])
  .ret))))
theorem fit_kit_Number : fits Tryz.prog 43 Tryz.f43 sc_kit_Number [.t 4, .t 5] 2 = true := by kernel_rfl

set_option maxRecDepth 100000 in
set_option maxHeartbeats 40000000 in
noncomputable def sims_G1_2_2 : (∀ (x0 : List UInt8) (x1 : Int), {m : Option (Int × Bool) // ∀ r, m = some r → PureSpec Tryz.prog 43 [.str x0, .int .i64 x1] (.tup [.int .i64 r.1, .bool r.2])}) := by
  (intro x0 x1; apply Subtype.mk; intro r hm; apply pure_walk Tryz.func43 fit_kit_Number; unfold sc_kit_Number)
  repeat' (first | with_reducible refine W_seq ?_ | with_reducible refine W_reg ?_ | with_reducible refine W_regD ?_ | with_reducible refine W_block ?_ | with_reducible refine W_skip ?_ | with_reducible refine W_ret ?_ | with_reducible refine W_exit ?_ | with_reducible refine O_nil ?_ | with_reducible refine K_seq ?_ | with_reducible refine K_seqE ?_ | with_reducible refine K_seqR ?_ | with_reducible refine K_block ?_ | with_reducible refine K_blockR ?_ | with_reducible refine K_blockE ?_ | ((with_reducible apply K_blockN); decide) | ((with_reducible apply O_sidxr hm); (iterate 2 (simp only [push_cast, seval]; rfl)); intro e hm) | ((with_reducible apply O_r); (simp only [push_cast, seval]; rfl); (first | exact trivial | omega)) | ((with_reducible apply O_and hm); (simp only [push_cast, seval]; rfl); rfl; intro v hm; rotate_left; intro v g hm) | ((with_reducible apply O_or hm); (simp only [push_cast, seval]; rfl); rfl; intro v hm; rotate_left; intro v g hm) | ((with_reducible apply W_condT); (focus (simp only [push_cast, seval]; done))) | ((with_reducible apply W_condF); (focus (simp only [push_cast, seval]; done))) | ((with_reducible apply O_cF hm); (simp only [push_cast, seval]; rfl); (first | apply spec_kit_IsDigits _ | apply spec_strconv_Atoi _); (any_goals ((repeat' (first | rfl | (with_reducible first | apply f_optN | apply f_optS | apply f_some | apply f_tup | apply f_agg | apply f_ptr | apply f_fn | apply dv_slice | apply sv_d | apply f_cons | apply fold_nil | apply fold_cons | apply fold_app | apply f_rowI | apply f_rowY | apply f_rowS | apply f_rowB | apply f_rowL) | (with_reducible apply f_byte; decide))); done)); intro x hm) | ((with_reducible apply S_condB hm); (simp only [push_cast, seval]; rfl); intro hm; rotate_left; intro hm) | ((with_reducible apply K_end2 hm); (focus (simp only [resOf, resL, RV.get, push_cast, seval]; rfl)); (focus (first | (dsimp only; done) | (dsimp only; rfl) | rfl)); (focus ((repeat' (first | rfl | (with_reducible first | apply f_optN | apply f_optS | apply f_some | apply f_tup | apply f_agg | apply f_ptr | apply f_fn | apply dv_slice | apply sv_d | apply f_cons | apply fold_nil | apply fold_cons | apply fold_app | apply f_rowI | apply f_rowY | apply f_rowS | apply f_rowB | apply f_rowL) | (with_reducible apply f_byte; decide))); done))) | ((with_reducible apply K_bool hm); (simp only [push_cast, seval]; rfl)))
noncomputable def m_kit_Number (x0 : List UInt8) (x1 : Int) : Option (Int × Bool) := (sims_G1_2_2 x0 x1).1
theorem spec_kit_Number (x0 : List UInt8) (x1 : Int) : ∀ r, m_kit_Number x0 x1 = some r → PureSpec Tryz.prog 43 [.str x0, .int .i64 x1] (.tup [.int .i64 r.1, .bool r.2]) := (sims_G1_2_2 x0 x1).2

/-- interchange/desk.recordFault -/
def sc_desk_recordFault : SC :=
  (.seq (.reg [.r 1 (.boxI (.t 0)),
     .r 2 (.mv (.c (.d (.int .i64 0))))])
  (.seq (.seq (.reg [.r 4 (.fld 0 (.t 1)),
     .o 5 (.ld1 (.t 4)),
     .r 6 (.fld 1 (.t 1)),
     .o 7 (.ld1 (.t 6)),
     .r 8 (.fld 2 (.t 1)),
     .o 9 (.ld1 (.t 8)),
     .r 10 (.fld 5 (.t 1)),
     .o 11 (.ld1 (.t 10)),
     .c 12 (.f 81) [.t 5, .t 7, .t 9, .t 11],
     .r 3 (.mv (.t 12))])
  (.seq (.reg [.r 13 (.mv (.t 3)),
     .r 14 (.bin .neq (.t 13) (.c (.d (.int .i64 0))))])
  (.cond (.t 14)
    (.seq (.reg [.r 15 (.mv (.t 3)),
       .r 2 (.mv (.t 15))])
    .ret)
    .skip)))
  (.seq (.block 0 (.seq (.seq (.reg (.r 17 (.fld 4 (.t 1)) :: .o 18 (.ld1 (.t 17)) :: .r 19 (.mv (.t 18)) :: gapp [20, 21, 22] 19 true (.r 20 (.fld 5 (.t 1)) :: .r 21 (.ld1 (.t 20)) :: .r 22 (.bin .neq (.t 21) (.c (.d (.str [])))) :: []) (.r 23 (.pick (.t 19) (.t 22) (.c (.d (.bool false)))) :: .r 16 (.mv (.t 23)) :: [])))
    (.cond (.t 16)
      .skip
      (.reg [.r 24 (.fld 3 (.t 1)),
         .o 25 (.ld1 (.t 24)),
         .c 26 (.f 82) [.t 25],
         .r 27 (.not (.t 26)),
         .r 16 (.mv (.t 27))])))
    (.cond (.t 16)
      (.seq (.reg [.r 2 (.mv (.c (.d (.int .i64 3))))])
      .ret)
      (.seq (.regD (.r 29 (.fld 4 (.t 1)) :: .r 30 (.ld1 (.t 29)) :: .r 31 (.not (.t 30)) :: .r 32 (.mv (.t 31)) :: gapp [33, 34, 35, 36, 37, 38, 39] 32 true (.r 33 (.fld 5 (.t 1)) :: .r 34 (.ld1 (.t 33)) :: .r 35 (.cvsb (.t 34)) :: .c 36 (.f 83) [.t 35] :: .r 37 (.fld 3 (.t 1)) :: .r 38 (.ld1 (.t 37)) :: .r 39 (.bin .neq (.t 36) (.t 38)) :: []) (.r 40 (.pick (.t 32) (.t 39) (.c (.d (.bool false)))) :: .r 28 (.mv (.t 40)) :: [])))
      (.cond (.t 28)
        (.seq (.reg [.r 2 (.mv (.c (.d (.int .i64 15))))])
        .ret)
        .skip)))))
  (.seq (.reg [.r 2 (.mv (.c (.d (.int .i64 0))))])
  .ret))))
theorem fit_desk_recordFault : fits Tryz.prog 55 Tryz.f55 sc_desk_recordFault [.t 2] 1 = true := by kernel_rfl

set_option maxRecDepth 100000 in
set_option maxHeartbeats 40000000 in
noncomputable def sims_G1_3_0 : (∀ (x0 : Tapi_Record), {m : Option (Int) // ∀ r, m = some r → PureSpec Tryz.prog 55 [.agg (rTapi_Record x0)] (.int .i64 r)}) := by
  (intro x0; apply Subtype.mk; intro r hm; apply pure_walk Tryz.func55 fit_desk_recordFault; unfold sc_desk_recordFault)
  repeat' (first | with_reducible refine W_seq ?_ | with_reducible refine W_reg ?_ | with_reducible refine W_regD ?_ | with_reducible refine W_block ?_ | with_reducible refine W_skip ?_ | with_reducible refine W_ret ?_ | with_reducible refine W_exit ?_ | with_reducible refine O_nil ?_ | with_reducible refine K_seq ?_ | with_reducible refine K_seqE ?_ | with_reducible refine K_seqR ?_ | with_reducible refine K_block ?_ | with_reducible refine K_blockR ?_ | with_reducible refine K_blockE ?_ | ((with_reducible apply K_blockN); decide) | with_reducible refine O_o2r ?_ | ((with_reducible apply O_cvsb); (simp only [push_cast, seval]; rfl)) | ((with_reducible apply O_r); (simp only [push_cast, seval]; rfl); (first | exact trivial | omega)) | ((with_reducible apply O_and hm); (simp only [push_cast, seval]; rfl); rfl; intro v hm; rotate_left; intro v g hm) | ((with_reducible apply W_condT); (focus (simp only [push_cast, seval]; done))) | ((with_reducible apply W_condF); (focus (simp only [push_cast, seval]; done))) | ((with_reducible apply O_cF hm); (simp only [push_cast, seval]; rfl); (first | apply spec_desk_fieldsFault _ _ _ _ | apply spec_desk_isDigest _ | apply spec_partner_Digest _); (any_goals ((repeat' (first | rfl | (with_reducible first | apply fT_Tapi_Record | apply f_optN | apply f_optS | apply f_some | apply f_tup | apply f_agg | apply f_ptr | apply f_fn | apply dv_slice | apply sv_d | apply f_cons | apply fold_nil | apply fold_cons | apply fold_app | apply f_rowI | apply f_rowY | apply f_rowS | apply f_rowB | apply f_rowL) | (with_reducible apply f_byte; decide))); done)); intro x hm) | ((with_reducible apply S_condB hm); (simp only [push_cast, seval]; rfl); intro hm; rotate_left; intro hm) | ((with_reducible apply K_endS hm); (focus (simp only [resOf, resL, RV.get, push_cast, seval]; rfl)); (focus ((repeat' (first | rfl | (with_reducible first | apply fT_Tapi_Record | apply f_optN | apply f_optS | apply f_some | apply f_tup | apply f_agg | apply f_ptr | apply f_fn | apply dv_slice | apply sv_d | apply f_cons | apply fold_nil | apply fold_cons | apply fold_app | apply f_rowI | apply f_rowY | apply f_rowS | apply f_rowB | apply f_rowL) | (with_reducible apply f_byte; decide))); done))) | ((with_reducible apply K_bool hm); (simp only [push_cast, seval]; rfl)))
noncomputable def m_desk_recordFault (x0 : Tapi_Record) : Option (Int) := (sims_G1_3_0 x0).1
theorem spec_desk_recordFault (x0 : Tapi_Record) : ∀ r, m_desk_recordFault x0 = some r → PureSpec Tryz.prog 55 [.agg (rTapi_Record x0)] (.int .i64 r) := (sims_G1_3_0 x0).2

/-- interchange/desk.readRecord -/
def sc_desk_readRecord : SC :=
  (.seq (.reg [.w 2 (.boxM (.c (.agg [.d (.int .i64 0), .d (.str []), .d (.str []), .d (.str []), .d (.bool false), .d (.str [])]))),
     .r 3 (.mv (.c (.d (.bool false))))])
  (.seq (.reg [.r 12 (.mv (.t 0)),
     .c 13 (.f 59) [.t 12, .c (.d (.int .i64 4))],
     .r 11 (.mv (.t 13)),
     .r 14 (.ext (.t 11) 0),
     .r 15 (.ext (.t 11) 1),
     .r 16 (.ext (.t 11) 2),
     .r 4 (.mv (.t 14)),
     .r 5 (.mv (.t 15)),
     .r 6 (.mv (.t 16))])
  (.seq (.seq (.reg (.r 17 (.mv (.t 6)) :: .r 18 (.not (.t 17)) :: .r 19 (.mv (.t 18)) :: gapp [20, 21] 19 false (.r 20 (.mv (.t 4)) :: .c 21 (.f 60) [.t 20, .f 61] :: []) (.r 22 (.pick (.t 19) (.c (.d (.bool true))) (.t 21)) :: [])))
  (.cond (.t 22)
    (.seq (.reg [.r 23 (.build [.d (.int .i64 0), .d (.str []), .d (.str []), .d (.str []), .d (.bool false), .d (.str [])] []),
       .w 0 (.st 6 (.t 2) (.t 23)),
       .r 3 (.mv (.c (.d (.bool false))))])
    .ret)
    .skip))
  (.seq (.reg [.r 25 (.mv (.t 4)),
     .r 26 (.idx 1 (.t 25) (.c (.d (.int .i64 0)))),
     .o 27 (.ld1 (.t 26)),
     .c 28 (.f 43) [.t 27, .c (.d (.int .i64 16))],
     .r 24 (.mv (.t 28)),
     .r 29 (.ext (.t 24) 0),
     .r 30 (.ext (.t 24) 1),
     .r 7 (.mv (.t 29)),
     .r 6 (.mv (.t 30))])
  (.seq (.regE [.r 31 (.mv (.t 7)),
     .r 32 (.mv (.t 4)),
     .r 33 (.idx 1 (.t 32) (.c (.d (.int .i64 1)))),
     .r 34 (.ld1 (.t 33)),
     .r 35 (.mv (.t 4)),
     .r 36 (.idx 1 (.t 35) (.c (.d (.int .i64 2)))),
     .r 37 (.ld1 (.t 36)),
     .r 38 (.mv (.t 4)),
     .r 39 (.idx 1 (.t 38) (.c (.d (.int .i64 3)))),
     .r 40 (.ld1 (.t 39)),
     .r 41 (.build [.d (.int .i64 0), .d (.str []), .d (.str []), .d (.str []), .d (.bool false), .d (.str [])] [(0, 1, .t 31), (1, 1, .t 34), (2, 1, .t 37), (3, 1, .t 40)]),
     .x 8 (.boxM (.c (.agg [.d (.int .i64 0), .d (.str []), .d (.str []), .d (.str []), .d (.bool false), .d (.str [])]))) [(0, 31, .mv (.t 7)), (1, 32, .mv (.t 4)), (2, 33, .idx 1 (.t 32) (.c (.d (.int .i64 1)))), (3, 34, .ld1 (.t 33)), (4, 35, .mv (.t 4)), (5, 36, .idx 1 (.t 35) (.c (.d (.int .i64 2)))), (6, 37, .ld1 (.t 36)), (7, 38, .mv (.t 4)), (8, 39, .idx 1 (.t 38) (.c (.d (.int .i64 3)))), (9, 40, .ld1 (.t 39)), (10, 41, .build [.d (.int .i64 0), .d (.str []), .d (.str []), .d (.str []), .d (.bool false), .d (.str [])] [(0, 1, .t 31), (1, 1, .t 34), (2, 1, .t 37), (3, 1, .t 40)])],
     .x 0 (.st 6 (.t 8) (.t 41)) []])
  (.seq (.seq (.reg [.r 43 (.mv (.t 5)),
     .c 44 (.f 63) [.t 43, .c (.d (.str [58]))],
     .r 42 (.mv (.t 44)),
     .r 45 (.ext (.t 42) 0),
     .r 46 (.ext (.t 42) 1),
     .r 9 (.mv (.t 45)),
     .r 10 (.mv (.t 46))])
  (.seq (.reg [.r 47 (.mv (.t 10))])
  (.cond (.t 47)
    (.reg [.r 48 (.mv (.t 9)),
       .r 49 (.fld 5 (.t 8)),
       .w 0 (.st 1 (.t 49) (.t 48))])
    (.seq (.reg [.r 50 (.fld 4 (.t 8)),
       .w 0 (.st 1 (.t 50) (.c (.d (.bool true))))])
    (.reg (.r 51 (.mv (.t 6)) :: .r 52 (.mv (.t 51)) :: gapp [53, 54] 52 true (.r 53 (.mv (.t 5)) :: .r 54 (.bin .eql (.t 53) (.c (.d (.str [100, 114, 111, 112, 112, 101, 100])))) :: []) (.r 55 (.pick (.t 52) (.t 54) (.c (.d (.bool false)))) :: .r 6 (.mv (.t 55)) :: [])))))))
  (.seq (.reg [.o 56 (.ldA 6 (.t 8)),
     .r 57 (.mv (.t 6)),
     .w 0 (.st 6 (.t 2) (.t 56)),
     .r 3 (.mv (.t 57))])
  .ret)))))))
theorem fit_desk_readRecord : fits Tryz.prog 36 Tryz.f36 sc_desk_readRecord [.cell 2 6, .t 3] 1 = true := by kernel_rfl

set_option maxRecDepth 100000 in
set_option maxHeartbeats 40000000 in
noncomputable def sims_G1_3_1 : (∀ (x0 : List UInt8), {m : Option (Tapi_Record × Bool) // ∀ r, m = some r → PureSpec Tryz.prog 36 [.str x0] (.tup [.agg (rTapi_Record r.1), .bool r.2])}) := by
  (intro x0; apply Subtype.mk; intro r hm; apply pure_walk Tryz.func36 fit_desk_readRecord; unfold sc_desk_readRecord)
  repeat' (first | with_reducible refine W_seq ?_ | with_reducible refine W_reg ?_ | with_reducible refine W_regE ?_ | with_reducible refine W_block ?_ | with_reducible refine W_skip ?_ | with_reducible refine W_ret ?_ | with_reducible refine W_exit ?_ | with_reducible refine O_nil ?_ | with_reducible refine K_seq ?_ | with_reducible refine K_seqE ?_ | with_reducible refine K_seqR ?_ | with_reducible refine K_block ?_ | with_reducible refine K_blockR ?_ | with_reducible refine K_blockE ?_ | ((with_reducible apply K_blockN); decide) | with_reducible refine O_o2r ?_ | ((with_reducible apply O_idxrE hm); (iterate 2 (simp only [push_cast, seval]; rfl)); (intro _; rfl); intro e he hm) | ((with_reducible apply O_idxVr hm); (iterate 3 (simp only [push_cast, seval]; rfl)); intro e hm) | ((with_reducible apply O_r); (simp only [push_cast, seval]; rfl); (first | exact trivial | omega)) | ((with_reducible apply O_ldV1r hm); (iterate 2 (simp only [push_cast, seval]; rfl)); (intro _; rfl); intro e hm) | ((with_reducible apply O_ldAVr hm); (iterate 2 (simp only [push_cast, seval]; rfl)); (intro _; rfl); intro e hm) | ((with_reducible apply O_andX hm); (simp only [push_cast, seval]; rfl); (iterate 2 rfl); intro v hm; rotate_left; intro v g hm) | ((with_reducible apply O_and hm); (simp only [push_cast, seval]; rfl); rfl; intro v hm; rotate_left; intro v g hm) | ((with_reducible apply O_or hm); (simp only [push_cast, seval]; rfl); rfl; intro v hm; rotate_left; intro v g hm) | ((with_reducible apply W_condT); (focus (simp only [push_cast, seval]; done))) | ((with_reducible apply W_condF); (focus (simp only [push_cast, seval]; done))) | ((with_reducible apply O_cF hm); (simp only [push_cast, seval]; rfl); (first | apply spec_desk_head _ _ | apply spec_slices_ContainsFunc_string_string _ _ _ _ (fun a0 a1 r h => spec_desk_head a0 a1 r h) | apply spec_slices_ContainsFunc_string_string _ _ _ _ (fun a0 r h => spec_desk_readRecord_1 a0 r h) | apply spec_slices_ContainsFunc_string_string _ _ _ _ (fun a0 a1 r h => spec_kit_Number a0 a1 r h) | apply spec_slices_ContainsFunc_string_string _ _ _ _ (fun a0 a1 r h => spec_strings_CutPrefix a0 a1 r h) | apply spec_desk_readRecord_1 _ | apply spec_kit_Number _ _ | apply spec_strings_CutPrefix _ _); (any_goals ((repeat' (first | rfl | (with_reducible first | apply fT_Tapi_Record | apply f_optN | apply f_optS | apply f_some | apply f_tup | apply f_agg | apply f_ptr | apply f_fn | apply dv_slice | apply sv_d | apply f_cons | apply fold_nil | apply fold_cons | apply fold_app | apply f_rowI | apply f_rowY | apply f_rowS | apply f_rowB | apply f_rowL) | (with_reducible apply f_byte; decide))); done)); intro x hm) | ((with_reducible apply O_w); (simp only [push_cast, seval]; rfl); (first | exact trivial | omega)) | ((with_reducible apply O_stVA hm); (iterate 4 (simp only [push_cast, seval]; rfl)); (focus ((repeat' (first | rfl | (with_reducible first | apply fT_Tapi_Record | apply f_optN | apply f_optS | apply f_some | apply f_tup | apply f_agg | apply f_ptr | apply f_fn | apply dv_slice | apply sv_d | apply f_cons | apply fold_nil | apply fold_cons | apply fold_app | apply f_rowI | apply f_rowY | apply f_rowS | apply f_rowB | apply f_rowL) | (with_reducible apply f_byte; decide))); done)); decide; (intro _; rfl); intro e hm) | ((with_reducible apply O_stVAX hm); (iterate 3 (simp only [push_cast, seval]; rfl)); (focus ((repeat' (first | rfl | (with_reducible first | apply fT_Tapi_Record | apply f_optN | apply f_optS | apply f_some | apply f_tup | apply f_agg | apply f_ptr | apply f_fn | apply dv_slice | apply sv_d | apply f_cons | apply fold_nil | apply fold_cons | apply fold_app | apply f_rowI | apply f_rowY | apply f_rowS | apply f_rowB | apply f_rowL) | (with_reducible apply f_byte; decide))); done)); (intro _; rfl); (focus ((repeat' (first | exact Rer_nil | ((with_reducible apply Rer_idx); (focus (simp only [push_cast, seval]; rfl)); (focus (simp only [push_cast, seval]; rfl)); rotate_left 2; (focus (first | (simp only [push_cast, seval]; rfl) | (simp only [push_cast, seval]; done))); rotate_left; (focus assumption); (focus (intro _; rfl))) | ((with_reducible apply Rer_cons); (focus (simp only [push_cast, seval]; rfl)); (focus (first | exact trivial | omega)); (focus (simp only [push_cast, seval]))))); done)); intro e hm) | ((with_reducible apply O_stVX hm); (iterate 3 (simp only [push_cast, seval]; rfl)); rfl; (intro _; rfl); rfl; (focus (intro a; simp only [push_cast, seval]; rfl)); (focus (intro a; (repeat' (first | rfl | with_reducible apply eT_Tapi_Record)); done)); (focus (intro _; (repeat' (first | exact Rer_nil | ((with_reducible apply Rer_idx); (focus (simp only [push_cast, seval]; rfl)); (focus (simp only [push_cast, seval]; rfl)); rotate_left 2; (focus (first | (simp only [push_cast, seval]; rfl) | (simp only [push_cast, seval]; done))); rotate_left; (focus assumption); (focus (intro _; rfl))) | ((with_reducible apply Rer_cons); (focus (simp only [push_cast, seval]; rfl)); (focus (first | exact trivial | omega)); (focus (simp only [push_cast, seval]))))); done)); intro e hm) | ((with_reducible apply O_x); (simp only [push_cast, seval]; rfl); (first | exact trivial | omega); (focus ((repeat' (first | exact Rer_nil | ((with_reducible apply Rer_idx); (focus (simp only [push_cast, seval]; rfl)); (focus (simp only [push_cast, seval]; rfl)); rotate_left 2; (focus (first | (simp only [push_cast, seval]; rfl) | (simp only [push_cast, seval]; done))); rotate_left; (focus assumption); (focus (intro _; rfl))) | ((with_reducible apply Rer_cons); (focus (simp only [push_cast, seval]; rfl)); (focus (first | exact trivial | omega)); (focus (simp only [push_cast, seval]))))); done))) | ((with_reducible apply S_condB hm); (simp only [push_cast, seval]; rfl); intro hm; rotate_left; intro hm) | ((with_reducible apply K_end2 hm); (focus (simp only [resOf, resL, RV.get, push_cast, seval]; rfl)); (focus (first | (dsimp only; done) | (dsimp only; rfl) | rfl)); (focus ((repeat' (first | rfl | (with_reducible first | apply fT_Tapi_Record | apply f_optN | apply f_optS | apply f_some | apply f_tup | apply f_agg | apply f_ptr | apply f_fn | apply dv_slice | apply sv_d | apply f_cons | apply fold_nil | apply fold_cons | apply fold_app | apply f_rowI | apply f_rowY | apply f_rowS | apply f_rowB | apply f_rowL) | (with_reducible apply f_byte; decide))); done))) | ((with_reducible apply K_bool hm); (simp only [push_cast, seval]; rfl)))
noncomputable def m_desk_readRecord (x0 : List UInt8) : Option (Tapi_Record × Bool) := (sims_G1_3_1 x0).1
theorem spec_desk_readRecord (x0 : List UInt8) : ∀ r, m_desk_readRecord x0 = some r → PureSpec Tryz.prog 36 [.str x0] (.tup [.agg (rTapi_Record r.1), .bool r.2]) := (sims_G1_3_1 x0).2

def sc_desk_CheckArchive_L1 : SC :=
  (.seq (.reg [.r 12 (.bin .lss (.t 11) (.t 10))])
  (.seq (.cond (.t 12)
    .skip
    (.exit 0))
  (.seq (.block 1 (.seq (.reg [.r 13 (.mv (.t 11)),
       .r 14 (.idx 6 (.t 9) (.t 11)),
       .o 15 (.ldA 6 (.t 14)),
       .w 4 (.boxM (.c (.agg [.d (.int .i64 0), .d (.str []), .d (.str []), .d (.str []), .d (.bool false), .d (.str [])]))),
       .r 3 (.mv (.t 13)),
       .w 0 (.st 6 (.t 4) (.t 15))])
    (.seq (.seq (.reg [.o 16 (.ldA 6 (.t 4)),
       .c 17 (.f 55) [.t 16],
       .r 5 (.mv (.t 17))])
    (.seq (.reg [.r 18 (.mv (.t 5)),
       .r 19 (.bin .neq (.t 18) (.c (.d (.int .i64 0))))])
    (.cond (.t 19)
      (.seq (.reg [.r 20 (.mv (.t 5)),
         .r 2 (.mv (.t 20))])
      .ret)
      .skip)))
    (.seq (.regD (.r 21 (.mv (.t 3)) :: .r 22 (.bin .gtr (.t 21) (.c (.d (.int .i64 0)))) :: .r 23 (.mv (.t 22)) :: gapp [24, 25, 26, 27, 28, 29, 30, 31, 32] 23 true (.r 24 (.fld 0 (.t 4)) :: .r 25 (.ld1 (.t 24)) :: .r 26 (.mv (.t 0)) :: .r 27 (.mv (.t 3)) :: .r 28 (.bin .sub (.t 27) (.c (.d (.int .i64 1)))) :: .r 29 (.idx 6 (.t 26) (.t 28)) :: .r 30 (.fld 0 (.t 29)) :: .r 31 (.ld1 (.t 30)) :: .r 32 (.bin .lss (.t 25) (.t 31)) :: []) (.r 33 (.pick (.t 23) (.t 32) (.c (.d (.bool false)))) :: [])))
    (.cond (.t 33)
      (.seq (.reg [.r 2 (.mv (.c (.d (.int .i64 8))))])
      .ret)
      .skip)))))
  (.reg [.r 34 (.bin .add (.t 11) (.c (.d (.int .i64 1)))),
     .r 11 (.mv (.t 34))]))))
def sc_desk_CheckArchive_B1 : SC := .block 0 (.loop sc_desk_CheckArchive_L1)
/-- interchange/desk.CheckArchive -/
def sc_desk_CheckArchive : SC :=
  (.seq (.reg [.r 2 (.mv (.c (.d (.int .i64 0))))])
  (.seq (.seq (.reg [.r 6 (.mv (.t 0)),
     .r 7 (.len (.t 6)),
     .r 8 (.bin .gtr (.t 7) (.c (.d (.int .i64 2000))))])
  (.cond (.t 8)
    (.seq (.reg [.r 2 (.mv (.c (.d (.int .i64 2))))])
    .ret)
    .skip))
  (.seq (.seq (.reg [.r 9 (.mv (.t 0)),
     .r 10 (.len (.t 9)),
     .r 11 (.mv (.c (.d (.int .i64 0))))])
  sc_desk_CheckArchive_B1)
  (.seq (.reg [.r 2 (.mv (.c (.d (.int .i64 0))))])
  .ret))))
theorem fit_desk_CheckArchive : fits Tryz.prog 30 Tryz.f30 sc_desk_CheckArchive [.t 2] 1 = true := by kernel_rfl

set_option maxRecDepth 100000 in
set_option maxHeartbeats 40000000 in
noncomputable def sims_G1_4_0 : (∀ (x0 : List Tapi_Record), {m : Option (Int) // ∀ r, m = some r → PureSpec Tryz.prog 30 [.slice (List.map rTapi_Record x0)] (.int .i64 r)}) := by
  (intro x0; apply Subtype.mk; intro r hm; apply pure_walk Tryz.func30 fit_desk_CheckArchive; unfold sc_desk_CheckArchive)
  repeat' (first | with_reducible refine W_seq ?_ | with_reducible refine W_reg ?_ | with_reducible refine W_regD ?_ | with_reducible refine W_block ?_ | with_reducible refine W_skip ?_ | with_reducible refine W_ret ?_ | with_reducible refine W_exit ?_ | with_reducible refine O_nil ?_ | with_reducible refine K_seq ?_ | with_reducible refine K_seqE ?_ | with_reducible refine K_seqR ?_ | with_reducible refine K_block ?_ | with_reducible refine K_blockR ?_ | with_reducible refine K_blockE ?_ | ((with_reducible apply K_blockN); decide) | with_reducible refine O_o2r ?_ | ((with_reducible apply O_idxr hm); (iterate 2 (simp only [push_cast, seval]; rfl)); (intro _; rfl); intro e hm) | ((with_reducible apply O_idxVr hm); (iterate 3 (simp only [push_cast, seval]; rfl)); intro e hm) | ((with_reducible apply O_r); (simp only [push_cast, seval]; rfl); (first | exact trivial | omega)) | ((with_reducible apply O_ldV1r hm); (iterate 2 (simp only [push_cast, seval]; rfl)); (intro _; rfl); intro e hm) | ((with_reducible apply O_ldAVr hm); (iterate 2 (simp only [push_cast, seval]; rfl)); (intro _; rfl); intro e hm) | ((with_reducible apply O_strr hm); (iterate 2 (simp only [push_cast, seval]; rfl)); intro hm) | ((with_reducible apply O_and hm); (simp only [push_cast, seval]; rfl); rfl; intro v hm; rotate_left; intro v g hm) | ((with_reducible apply W_condT); (focus (simp only [push_cast, seval]; done))) | ((with_reducible apply W_condF); (focus (simp only [push_cast, seval]; done))) | ((with_reducible apply O_cF hm); (simp only [push_cast, seval]; rfl); (first | apply spec_desk_recordFault _); (any_goals ((repeat' (first | rfl | (with_reducible first | apply fT_Tapi_Record | apply f_optN | apply f_optS | apply f_some | apply f_tup | apply f_agg | apply f_ptr | apply f_fn | apply dv_slice | apply sv_d | apply f_cons | apply fold_nil | apply fold_cons | apply fold_app | apply f_rowI | apply f_rowY | apply f_rowS | apply f_rowB | apply f_rowL) | (with_reducible apply f_byte; decide))); done)); intro x hm) | ((with_reducible apply O_w); (simp only [push_cast, seval]; rfl); (first | exact trivial | omega)) | ((with_reducible apply O_stVA hm); (iterate 4 (simp only [push_cast, seval]; rfl)); (focus ((repeat' (first | rfl | (with_reducible first | apply fT_Tapi_Record | apply f_optN | apply f_optS | apply f_some | apply f_tup | apply f_agg | apply f_ptr | apply f_fn | apply dv_slice | apply sv_d | apply f_cons | apply fold_nil | apply fold_cons | apply fold_app | apply f_rowI | apply f_rowY | apply f_rowS | apply f_rowB | apply f_rowL) | (with_reducible apply f_byte; decide))); done)); decide; (intro _; rfl); intro e hm) | ((with_reducible apply S_condB hm); (simp only [push_cast, seval]; rfl); intro hm; rotate_left; intro hm) | ((with_reducible apply K_endS hm); (focus (simp only [resOf, resL, RV.get, push_cast, seval]; rfl)); (focus ((repeat' (first | rfl | (with_reducible first | apply fT_Tapi_Record | apply f_optN | apply f_optS | apply f_some | apply f_tup | apply f_agg | apply f_ptr | apply f_fn | apply dv_slice | apply sv_d | apply f_cons | apply fold_nil | apply fold_cons | apply fold_app | apply f_rowI | apply f_rowY | apply f_rowS | apply f_rowB | apply f_rowL) | (with_reducible apply f_byte; decide))); done))) | ((with_reducible apply K_bool hm); (simp only [push_cast, seval]; rfl)) | ((with_reducible apply K_leave hm); intro r hm) | ((with_reducible apply K_leaveR hm); intro r hm) | ((apply S_loopY (b := 0) (X := sc_desk_CheckArchive_B1) (x := sc_desk_CheckArchive_L1) rfl (fun (c : SV × SV × SV) (s : Int) => st [(0, c.1), (9, c.2.1), (10, c.2.2), (11, .d (.int .i64 s))] []) (c := (_, _, _)) (s0 := _) hm); (focus (first | (dsimp only; done) | (dsimp only; rfl) | rfl)); (with_reducible refine Then.mk ?_ ?_)) | ((apply K_next (s' := _) hm); (focus (first | (dsimp only; done) | (dsimp only; rfl) | rfl))) | ((apply K_brk (s' := _) hm); (focus (first | (dsimp only; done) | (dsimp only; rfl) | rfl))) | (((with_reducible apply K_brkN hm); (focus decide); intro r hm)) | (((with_reducible apply K_brkR hm); intro r hm)) | (((with_reducible apply LoopB.of); (focus (first | (dsimp only; done) | (dsimp only; rfl) | rfl)); (focus ((intro _; repeat' (first | with_reducible exact impC_end | with_reducible exact impC_endF | with_reducible refine impC_seq ?_ | with_reducible refine impC_block ?_ | ((with_reducible refine impC_rnd ?_); intro _) | ((with_reducible refine impC_brk ?_); intro _))))); (intro s o hm; first | unfold sc_desk_CheckArchive_L1); rotate_left; intro s hm)) | (((apply imp_stT; (repeat' (first | with_reducible exact keepT_nil | with_reducible exact keepC_nil | with_reducible apply keepT_cons | with_reducible apply keepC_cons | ((with_reducible apply svle_eq); (focus (first | (simp only [push_cast, seval]; rfl) | rfl)); (focus ((repeat' (first | rfl | (with_reducible first | apply fT_Tapi_Record | apply f_optN | apply f_optS | apply f_some | apply f_tup | apply f_agg | apply f_ptr | apply f_fn | apply dv_slice | apply sv_d | apply f_cons | apply fold_nil | apply fold_cons | apply fold_app | apply f_rowI | apply f_rowY | apply f_rowS | apply f_rowB | apply f_rowL) | (with_reducible apply f_byte; decide))); done))) | ((with_reducible apply svle_td); (focus (first | (simp only [push_cast, seval]; rfl) | rfl)); (focus (first | (simp only [push_cast, seval]; rfl) | rfl)); (focus ((repeat' (first | rfl | (with_reducible first | apply fT_Tapi_Record | apply f_optN | apply f_optS | apply f_some | apply f_tup | apply f_agg | apply f_ptr | apply f_fn | apply dv_slice | apply sv_d | apply f_cons | apply fold_nil | apply fold_cons | apply fold_app | apply f_rowI | apply f_rowY | apply f_rowS | apply f_rowB | apply f_rowL) | (with_reducible apply f_byte; decide))); done))) | ((with_reducible apply chle_eq); (focus (first | (simp only [push_cast, seval]; rfl) | rfl)); (first | with_reducible exact chle_rfl rfl | with_reducible exact chle_map0 | with_reducible apply chle_vec | with_reducible apply chle_box)) | (with_reducible first | apply cT_Tapi_Record | apply r_shS | apply r_shI | apply r_rflO | apply r_oneO | apply r_appO | apply r_nilO | apply c_ownN | apply c_ownL | apply vc_rfl | apply vc_nil | apply vc_cons | apply r_rfl | apply r_rows | apply r_nil | apply r_app | apply r_cons | apply c_rowI | apply c_rowY | apply c_rowS | apply c_rowB | apply c_rowL))); done))))
noncomputable def m_desk_CheckArchive (x0 : List Tapi_Record) : Option (Int) := (sims_G1_4_0 x0).1
theorem spec_desk_CheckArchive (x0 : List Tapi_Record) : ∀ r, m_desk_CheckArchive x0 = some r → PureSpec Tryz.prog 30 [.slice (List.map rTapi_Record x0)] (.int .i64 r) := (sims_G1_4_0 x0).2

def sc_desk_Read_L1 : SC :=
  (.seq (.reg [.r 24 (.bin .lss (.t 23) (.t 22))])
  (.seq (.cond (.t 24)
    .skip
    (.exit 0))
  (.seq (.block 1 (.seq (.reg [.r 25 (.mv (.t 23)),
       .r 26 (.idx 1 (.t 21) (.t 23)),
       .o 27 (.ld1 (.t 26)),
       .r 8 (.mv (.t 25)),
       .r 9 (.mv (.t 27))])
    (.seq (.reg [.r 29 (.mv (.t 9)),
       .c 30 (.f 36) [.t 29],
       .r 28 (.mv (.t 30)),
       .r 31 (.ext (.t 28) 0),
       .r 32 (.ext (.t 28) 1),
       .w 10 (.boxM (.c (.agg [.d (.int .i64 0), .d (.str []), .d (.str []), .d (.str []), .d (.bool false), .d (.str [])]))),
       .w 0 (.st 6 (.t 10) (.t 31)),
       .r 11 (.mv (.t 32))])
    (.seq (.seq (.reg (.r 33 (.mv (.t 11)) :: .r 34 (.not (.t 33)) :: .r 35 (.mv (.t 34)) :: gapp [36, 37, 38, 39, 40, 41, 42, 43, 44] 35 false (.r 36 (.mv (.t 6)) :: .r 37 (.not (.t 36)) :: .r 38 (.mv (.t 37)) :: gapp [39, 40, 41, 42, 43] 38 true (.r 39 (.mv (.t 8)) :: .r 40 (.mv (.t 5)) :: .r 41 (.len (.t 40)) :: .r 42 (.bin .sub (.t 41) (.c (.d (.int .i64 1)))) :: .r 43 (.bin .eql (.t 39) (.t 42)) :: []) (.r 44 (.pick (.t 38) (.t 43) (.c (.d (.bool false)))) :: [])) (.r 45 (.pick (.t 35) (.c (.d (.bool true))) (.t 44)) :: [])))
    (.cond (.t 45)
      (.seq (.reg [.r 46 (.mv (.t 8)),
         .r 47 (.bin .add (.t 46) (.c (.d (.int .i64 1)))),
         .r 2 (.mv (.c (.nils))),
         .r 3 (.mv (.t 47)),
         .r 4 (.mv (.c (.d (.int .i64 10))))])
      .ret)
      .skip))
    (.reg [.r 48 (.mv (.t 7)),
       .o 49 (.ldA 6 (.t 10)),
       .r 50 (.bslice 6 [.t 49]),
       .w 51 (.app 42 6 (.t 48) (.t 50)),
       .r 7 (.mv (.t 51))])))))
  (.reg [.r 52 (.bin .add (.t 23) (.c (.d (.int .i64 1)))),
     .r 23 (.mv (.t 52))]))))
def sc_desk_Read_B1 : SC := .block 0 (.loop sc_desk_Read_L1)
/-- interchange/desk.Read -/
def sc_desk_Read : SC :=
  (.seq (.reg [.r 2 (.mv (.c (.nils))),
     .r 3 (.mv (.c (.d (.int .i64 0)))),
     .r 4 (.mv (.c (.d (.int .i64 0))))])
  (.seq (.seq (.reg [.r 13 (.mv (.t 0)),
     .r 14 (.lenT (.t 13)),
     .r 15 (.bin .gtr (.t 14) (.c (.d (.int .i64 500000))))])
  (.cond (.t 15)
    (.seq (.reg [.r 2 (.mv (.c (.nils))),
       .r 3 (.mv (.c (.d (.int .i64 0)))),
       .r 4 (.mv (.c (.d (.int .i64 2))))])
    .ret)
    .skip))
  (.seq (.reg [.r 17 (.mv (.t 0)),
     .c 18 (.f 35) [.t 17],
     .r 16 (.mv (.t 18)),
     .r 19 (.ext (.t 16) 0),
     .r 20 (.ext (.t 16) 1),
     .r 5 (.mv (.t 19)),
     .r 6 (.mv (.t 20))])
  (.seq (.reg [.r 7 (.mv (.c (.nils)))])
  (.seq (.seq (.reg [.r 21 (.mv (.t 5)),
     .r 22 (.len (.t 21)),
     .r 23 (.mv (.c (.d (.int .i64 0))))])
  sc_desk_Read_B1)
  (.seq (.seq (.reg [.r 53 (.mv (.t 7)),
     .c 54 (.f 30) [.t 53],
     .r 12 (.mv (.t 54))])
  (.seq (.reg [.r 55 (.mv (.t 12)),
     .r 56 (.bin .neq (.t 55) (.c (.d (.int .i64 0))))])
  (.cond (.t 56)
    (.seq (.reg [.r 57 (.mv (.t 12)),
       .r 2 (.mv (.c (.nils))),
       .r 3 (.mv (.c (.d (.int .i64 0)))),
       .r 4 (.mv (.t 57))])
    .ret)
    .skip)))
  (.seq (.reg [.r 58 (.mv (.t 7)),
     .r 2 (.mv (.t 58)),
     .r 3 (.mv (.c (.d (.int .i64 0)))),
     .r 4 (.mv (.c (.d (.int .i64 0))))])
  .ret)))))))
theorem fit_desk_Read : fits Tryz.prog 15 Tryz.f15 sc_desk_Read [.t 2, .t 3, .t 4] 1 = true := by kernel_rfl

set_option maxRecDepth 100000 in
set_option maxHeartbeats 40000000 in
noncomputable def sims_G1_5_0 : (∀ (x0 : List UInt8), {m : Option ((List Tapi_Record) × Int × Int) // ∀ r, m = some r → PureSpec Tryz.prog 15 [.str x0] (.tup [.slice (List.map rTapi_Record r.1), .int .i64 r.2.1, .int .i64 r.2.2])}) := by
  (intro x0; apply Subtype.mk; intro r hm; apply pure_walk Tryz.func15 fit_desk_Read; unfold sc_desk_Read)
  repeat' (first | with_reducible refine W_seq ?_ | with_reducible refine W_reg ?_ | with_reducible refine W_block ?_ | with_reducible refine W_skip ?_ | with_reducible refine W_ret ?_ | with_reducible refine W_exit ?_ | with_reducible refine O_nil ?_ | with_reducible refine K_seq ?_ | with_reducible refine K_seqE ?_ | with_reducible refine K_seqR ?_ | with_reducible refine K_block ?_ | with_reducible refine K_blockR ?_ | with_reducible refine K_blockE ?_ | ((with_reducible apply K_blockN); decide) | with_reducible refine O_o2r ?_ | ((with_reducible apply O_idxr hm); (iterate 2 (simp only [push_cast, seval]; rfl)); (intro _; rfl); intro e hm) | ((with_reducible apply O_idxVr hm); (iterate 3 (simp only [push_cast, seval]; rfl)); intro e hm) | ((with_reducible apply O_idxLr hm (row := rTapi_Record)); (iterate 2 (simp only [push_cast, seval]; rfl)); (focus ((repeat' (first | rfl | (with_reducible first | apply fT_Tapi_Record | apply f_optN | apply f_optS | apply f_some | apply f_tup | apply f_agg | apply f_ptr | apply f_fn | apply dv_slice | apply sv_d | apply f_cons | apply fold_nil | apply fold_cons | apply fold_app | apply f_rowI | apply f_rowY | apply f_rowS | apply f_rowB | apply f_rowL) | (with_reducible apply f_byte; decide))); done)); (simp only [push_cast, seval]; rfl); (intro _; rfl); intro e hm) | ((with_reducible apply O_r); (simp only [push_cast, seval]; rfl); (first | exact trivial | omega)) | ((with_reducible apply O_ldV1r hm); (iterate 2 (simp only [push_cast, seval]; rfl)); (intro _; rfl); intro e hm) | ((with_reducible apply O_ldAVr hm); (iterate 2 (simp only [push_cast, seval]; rfl)); (intro _; rfl); intro e hm) | ((with_reducible apply O_strr hm); (iterate 2 (simp only [push_cast, seval]; rfl)); intro hm) | ((with_reducible apply O_and hm); (simp only [push_cast, seval]; rfl); rfl; intro v hm; rotate_left; intro v g hm) | ((with_reducible apply O_or hm); (simp only [push_cast, seval]; rfl); rfl; intro v hm; rotate_left; intro v g hm) | ((with_reducible apply W_condT); (focus (simp only [push_cast, seval]; done))) | ((with_reducible apply W_condF); (focus (simp only [push_cast, seval]; done))) | ((with_reducible apply O_cF hm); (simp only [push_cast, seval]; rfl); (first | apply spec_kit_Lines _ | apply spec_desk_readRecord _ | apply spec_desk_CheckArchive _); (any_goals ((repeat' (first | rfl | (with_reducible first | apply fT_Tapi_Record | apply f_optN | apply f_optS | apply f_some | apply f_tup | apply f_agg | apply f_ptr | apply f_fn | apply dv_slice | apply sv_d | apply f_cons | apply fold_nil | apply fold_cons | apply fold_app | apply f_rowI | apply f_rowY | apply f_rowS | apply f_rowB | apply f_rowL) | (with_reducible apply f_byte; decide))); done)); intro x hm) | ((with_reducible apply O_clS hm); (simp only [push_cast, seval]; rfl); (focus (first | exact spec_kit_Lines _ | exact spec_desk_readRecord _ | exact spec_desk_CheckArchive _)); (intro _; rfl); intro x hm) | ((with_reducible apply O_w); (simp only [push_cast, seval]; rfl); (first | exact trivial | omega)) | ((with_reducible apply O_appL hm (row := rTapi_Record)); (iterate 5 (simp only [push_cast, seval]; rfl)); (focus ((repeat' (first | rfl | (with_reducible first | apply fT_Tapi_Record | apply f_optN | apply f_optS | apply f_some | apply f_tup | apply f_agg | apply f_ptr | apply f_fn | apply dv_slice | apply sv_d | apply f_cons | apply fold_nil | apply fold_cons | apply fold_app | apply f_rowI | apply f_rowY | apply f_rowS | apply f_rowB | apply f_rowL) | (with_reducible apply f_byte; decide))); done)); (focus ((repeat' (first | rfl | (with_reducible first | apply fT_Tapi_Record | apply f_optN | apply f_optS | apply f_some | apply f_tup | apply f_agg | apply f_ptr | apply f_fn | apply dv_slice | apply sv_d | apply f_cons | apply fold_nil | apply fold_cons | apply fold_app | apply f_rowI | apply f_rowY | apply f_rowS | apply f_rowB | apply f_rowL) | (with_reducible apply f_byte; decide))); done)); rfl; decide; (intro _; rfl); intro hm) | ((with_reducible apply O_appV hm); (iterate 4 (simp only [push_cast, seval]; rfl)); (focus ((repeat' (first | rfl | (with_reducible first | apply fT_Tapi_Record | apply f_optN | apply f_optS | apply f_some | apply f_tup | apply f_agg | apply f_ptr | apply f_fn | apply dv_slice | apply sv_d | apply f_cons | apply fold_nil | apply fold_cons | apply fold_app | apply f_rowI | apply f_rowY | apply f_rowS | apply f_rowB | apply f_rowL) | (with_reducible apply f_byte; decide))); done)); decide; (intro _; rfl); intro hm) | ((with_reducible apply O_appN hm); (focus (simp only [push_cast, seval]; done)); (iterate 2 (simp only [push_cast, seval]; rfl)); (focus ((repeat' (first | rfl | (with_reducible first | apply fT_Tapi_Record | apply f_optN | apply f_optS | apply f_some | apply f_tup | apply f_agg | apply f_ptr | apply f_fn | apply dv_slice | apply sv_d | apply f_cons | apply fold_nil | apply fold_cons | apply fold_app | apply f_rowI | apply f_rowY | apply f_rowS | apply f_rowB | apply f_rowL) | (with_reducible apply f_byte; decide))); done)); decide; (intro _; rfl); intro hm) | ((with_reducible apply O_stVA hm); (iterate 4 (simp only [push_cast, seval]; rfl)); (focus ((repeat' (first | rfl | (with_reducible first | apply fT_Tapi_Record | apply f_optN | apply f_optS | apply f_some | apply f_tup | apply f_agg | apply f_ptr | apply f_fn | apply dv_slice | apply sv_d | apply f_cons | apply fold_nil | apply fold_cons | apply fold_app | apply f_rowI | apply f_rowY | apply f_rowS | apply f_rowB | apply f_rowL) | (with_reducible apply f_byte; decide))); done)); decide; (intro _; rfl); intro e hm) | ((with_reducible apply O_stV hm); (iterate 3 (simp only [push_cast, seval]; rfl)); rfl; (intro _; rfl); rfl; (focus (intro a; simp only [push_cast, seval]; rfl)); (focus (intro a; (repeat' (first | rfl | with_reducible apply eT_Tapi_Record)); done)); intro e hm) | ((with_reducible apply S_condB hm); (simp only [push_cast, seval]; rfl); intro hm; rotate_left; intro hm) | ((with_reducible apply K_end3 hm); (focus (simp only [resOf, resL, RV.get, push_cast, seval]; rfl)); (focus (first | (dsimp only; done) | (dsimp only; rfl) | rfl)); (focus ((repeat' (first | rfl | (with_reducible first | apply fT_Tapi_Record | apply f_optN | apply f_optS | apply f_some | apply f_tup | apply f_agg | apply f_ptr | apply f_fn | apply dv_slice | apply sv_d | apply f_cons | apply fold_nil | apply fold_cons | apply fold_app | apply f_rowI | apply f_rowY | apply f_rowS | apply f_rowB | apply f_rowL) | (with_reducible apply f_byte; decide))); done))) | ((with_reducible apply K_bool hm); (simp only [push_cast, seval]; rfl)) | ((with_reducible apply K_leave hm); intro r hm) | ((with_reducible apply K_leaveR hm); intro r hm) | ((apply S_loopY (b := 0) (X := sc_desk_Read_B1) (x := sc_desk_Read_L1) rfl (fun (c : SV × SV × SV × SV) (s : (List Tapi_Record) × Int) => st [(5, c.1), (6, c.2.1), (7, .vec 7), (21, c.2.2.1), (22, c.2.2.2), (23, .d (.int .i64 s.2))] [(7, .vec 42 6 (vrow rTapi_Record s.1))]) (c := (_, _, _, _)) (s0 := (_, _)) hm); (focus (first | (dsimp only; done) | (dsimp only; rfl) | rfl)); (with_reducible refine Then.mk ?_ ?_); apply Imp.trans; (focus (apply imp_vecnil (slot := 7) (id := 7) (e := 42) (sz := 6); (focus (simp only [push_cast, seval]; done))))) | ((apply K_next (s' := (_, _)) hm); (focus (first | (dsimp only; done) | (dsimp only; rfl) | rfl))) | ((apply K_brk (s' := (_, _)) hm); (focus (first | (dsimp only; done) | (dsimp only; rfl) | rfl))) | (((with_reducible apply K_brkN hm); (focus decide); intro r hm)) | (((with_reducible apply K_brkR hm); intro r hm)) | (((with_reducible apply LoopB.of); (focus (first | (dsimp only; done) | (dsimp only; rfl) | rfl)); (focus ((intro _; repeat' (first | with_reducible exact impC_end | with_reducible exact impC_endF | with_reducible refine impC_seq ?_ | with_reducible refine impC_block ?_ | ((with_reducible refine impC_rnd ?_); intro _) | ((with_reducible refine impC_brk ?_); intro _))))); (intro s o hm; first | unfold sc_desk_Read_L1); rotate_left; intro s hm)) | (((apply imp_stT; (repeat' (first | with_reducible exact keepT_nil | with_reducible exact keepC_nil | with_reducible apply keepT_cons | with_reducible apply keepC_cons | ((with_reducible apply svle_eq); (focus (first | (simp only [push_cast, seval]; rfl) | rfl)); (focus ((repeat' (first | rfl | (with_reducible first | apply fT_Tapi_Record | apply f_optN | apply f_optS | apply f_some | apply f_tup | apply f_agg | apply f_ptr | apply f_fn | apply dv_slice | apply sv_d | apply f_cons | apply fold_nil | apply fold_cons | apply fold_app | apply f_rowI | apply f_rowY | apply f_rowS | apply f_rowB | apply f_rowL) | (with_reducible apply f_byte; decide))); done))) | ((with_reducible apply svle_td); (focus (first | (simp only [push_cast, seval]; rfl) | rfl)); (focus (first | (simp only [push_cast, seval]; rfl) | rfl)); (focus ((repeat' (first | rfl | (with_reducible first | apply fT_Tapi_Record | apply f_optN | apply f_optS | apply f_some | apply f_tup | apply f_agg | apply f_ptr | apply f_fn | apply dv_slice | apply sv_d | apply f_cons | apply fold_nil | apply fold_cons | apply fold_app | apply f_rowI | apply f_rowY | apply f_rowS | apply f_rowB | apply f_rowL) | (with_reducible apply f_byte; decide))); done))) | ((with_reducible apply chle_eq); (focus (first | (simp only [push_cast, seval]; rfl) | rfl)); (first | with_reducible exact chle_rfl rfl | with_reducible exact chle_map0 | with_reducible apply chle_vec | with_reducible apply chle_box)) | (with_reducible first | apply cT_Tapi_Record | apply r_shS | apply r_shI | apply r_rflO | apply r_oneO | apply r_appO | apply r_nilO | apply c_ownN | apply c_ownL | apply vc_rfl | apply vc_nil | apply vc_cons | apply r_rfl | apply r_rows | apply r_nil | apply r_app | apply r_cons | apply c_rowI | apply c_rowY | apply c_rowS | apply c_rowB | apply c_rowL))); done))))
noncomputable def m_desk_Read (x0 : List UInt8) : Option ((List Tapi_Record) × Int × Int) := (sims_G1_5_0 x0).1
theorem spec_desk_Read (x0 : List UInt8) : ∀ r, m_desk_Read x0 = some r → PureSpec Tryz.prog 15 [.str x0] (.tup [.slice (List.map rTapi_Record r.1), .int .i64 r.2.1, .int .i64 r.2.2]) := (sims_G1_5_0 x0).2

/-- interchange/desk.Head -/
def sc_desk_Head : SC :=
  (.seq (.reg [.r 4 (.mv (.c (.d (.str [])))),
     .r 5 (.mv (.c (.d (.int .i64 0))))])
  (.seq (.seq (.reg [.r 7 (.mv (.t 0)),
     .c 8 (.f 30) [.t 7],
     .r 6 (.mv (.t 8))])
  (.seq (.reg [.r 9 (.mv (.t 6)),
     .r 10 (.bin .neq (.t 9) (.c (.d (.int .i64 0))))])
  (.cond (.t 10)
    (.seq (.reg [.r 11 (.mv (.t 6)),
       .r 4 (.mv (.c (.d (.str [])))),
       .r 5 (.mv (.t 11))])
    .ret)
    .skip)))
  (.seq (.seq (.reg [.r 12 (.mv (.t 1)),
     .r 13 (.mv (.t 0)),
     .r 14 (.len (.t 13)),
     .c 15 (.f 44) [.t 12, .c (.d (.int .i64 0)), .t 14]])
  (.cond (.t 15)
    (.seq (.reg [.r 4 (.mv (.c (.d (.str [])))),
       .r 5 (.mv (.c (.d (.int .i64 1))))])
    .ret)
    .skip))
  (.seq (.reg [.r 16 (.mv (.t 0)),
     .r 17 (.mv (.t 1)),
     .r 18 (.slc 6 (.t 16) none (some (.t 17))),
     .c 19 (.f 64) [.t 18],
     .r 4 (.mv (.t 19)),
     .r 5 (.mv (.c (.d (.int .i64 0))))])
  .ret))))
theorem fit_desk_Head : fits Tryz.prog 37 Tryz.f37 sc_desk_Head [.t 4, .t 5] 2 = true := by kernel_rfl

set_option maxRecDepth 100000 in
set_option maxHeartbeats 40000000 in
noncomputable def sims_G1_5_1 : (∀ (x0 : List Tapi_Record) (x1 : Int), {m : Option ((List UInt8) × Int) // ∀ r, m = some r → PureSpec Tryz.prog 37 [.slice (List.map rTapi_Record x0), .int .i64 x1] (.tup [.str r.1, .int .i64 r.2])}) := by
  (intro x0 x1; apply Subtype.mk; intro r hm; apply pure_walk Tryz.func37 fit_desk_Head; unfold sc_desk_Head)
  repeat' (first | with_reducible refine W_seq ?_ | with_reducible refine W_reg ?_ | with_reducible refine W_block ?_ | with_reducible refine W_skip ?_ | with_reducible refine W_ret ?_ | with_reducible refine W_exit ?_ | with_reducible refine O_nil ?_ | with_reducible refine K_seq ?_ | with_reducible refine K_seqE ?_ | with_reducible refine K_seqR ?_ | with_reducible refine K_block ?_ | with_reducible refine K_blockR ?_ | with_reducible refine K_blockE ?_ | ((with_reducible apply K_blockN); decide) | ((with_reducible apply O_slcr hm); (iterate 3 (simp only [push_cast, seval]; rfl)); (intro _; rfl); intro e hm) | ((with_reducible apply O_r); (simp only [push_cast, seval]; rfl); (first | exact trivial | omega)) | ((with_reducible apply W_condT); (focus (simp only [push_cast, seval]; done))) | ((with_reducible apply W_condF); (focus (simp only [push_cast, seval]; done))) | ((with_reducible apply O_cF hm); (simp only [push_cast, seval]; rfl); (first | apply spec_desk_CheckArchive _ | apply spec_kit_Outside _ _ _ | apply spec_desk_headOf _); (any_goals ((repeat' (first | rfl | (with_reducible first | apply fT_Tapi_Record | apply f_optN | apply f_optS | apply f_some | apply f_tup | apply f_agg | apply f_ptr | apply f_fn | apply dv_slice | apply sv_d | apply f_cons | apply fold_nil | apply fold_cons | apply fold_app | apply f_rowI | apply f_rowY | apply f_rowS | apply f_rowB | apply f_rowL) | (with_reducible apply f_byte; decide))); done)); intro x hm) | ((with_reducible apply S_condB hm); (simp only [push_cast, seval]; rfl); intro hm; rotate_left; intro hm) | ((with_reducible apply K_end2 hm); (focus (simp only [resOf, resL, RV.get, push_cast, seval]; rfl)); (focus (first | (dsimp only; done) | (dsimp only; rfl) | rfl)); (focus ((repeat' (first | rfl | (with_reducible first | apply fT_Tapi_Record | apply f_optN | apply f_optS | apply f_some | apply f_tup | apply f_agg | apply f_ptr | apply f_fn | apply dv_slice | apply sv_d | apply f_cons | apply fold_nil | apply fold_cons | apply fold_app | apply f_rowI | apply f_rowY | apply f_rowS | apply f_rowB | apply f_rowL) | (with_reducible apply f_byte; decide))); done))))
noncomputable def m_desk_Head (x0 : List Tapi_Record) (x1 : Int) : Option ((List UInt8) × Int) := (sims_G1_5_1 x0 x1).1
theorem spec_desk_Head (x0 : List Tapi_Record) (x1 : Int) : ∀ r, m_desk_Head x0 x1 = some r → PureSpec Tryz.prog 37 [.slice (List.map rTapi_Record x0), .int .i64 x1] (.tup [.str r.1, .int .i64 r.2]) := (sims_G1_5_1 x0 x1).2

def sc_desk_Text_L1 : SC :=
  (.seq (.reg [.r 16 (.bin .lss (.t 15) (.t 14))])
  (.seq (.cond (.t 16)
    .skip
    (.exit 0))
  (.seq (.block 1 (.seq (.reg [.r 17 (.idx 6 (.t 13) (.t 15)),
       .o 18 (.ldA 6 (.t 17)),
       .w 7 (.boxM (.c (.agg [.d (.int .i64 0), .d (.str []), .d (.str []), .d (.str []), .d (.bool false), .d (.str [])]))),
       .w 0 (.st 6 (.t 7) (.t 18))])
    (.seq (.reg [.o 19 (.ldA 6 (.t 7)),
       .c 20 (.f 32) [.t 19],
       .r 21 (.bin .add (.t 20) (.c (.d (.str [32])))),
       .p (some 22) (.f 31) [.t 5, .t 21]])
    (.seq (.seq (.reg [.r 23 (.fld 4 (.t 7)),
       .o 24 (.ld1 (.t 23))])
    (.cond (.t 24)
      (.reg [.p (some 25) (.f 31) [.t 5, .c (.d (.str [100, 114, 111, 112, 112, 101, 100, 10]))]])
      (.reg [.r 26 (.fld 5 (.t 7)),
         .o 27 (.ld1 (.t 26)),
         .r 28 (.bin .add (.c (.d (.str [58]))) (.t 27)),
         .r 29 (.bin .add (.t 28) (.c (.d (.str [10])))),
         .p (some 30) (.f 31) [.t 5, .t 29]])))
    (.seq (.reg [.p (some 31) (.f 33) [.t 5],
       .r 32 (.bin .gtr (.t 31) (.c (.d (.int .i64 500000))))])
    (.cond (.t 32)
      (.seq (.reg [.r 2 (.mv (.c (.d (.str [])))),
         .r 3 (.mv (.c (.d (.int .i64 2))))])
      .ret)
      .skip))))))
  (.reg [.r 33 (.bin .add (.t 15) (.c (.d (.int .i64 1)))),
     .r 15 (.mv (.t 33))]))))
def sc_desk_Text_B1 : SC := .block 0 (.loop sc_desk_Text_L1)
/-- interchange/desk.Text -/
def sc_desk_Text : SC :=
  (.seq (.reg [.r 2 (.mv (.c (.d (.str [])))),
     .r 3 (.mv (.c (.d (.int .i64 0))))])
  (.seq (.seq (.reg [.r 8 (.mv (.t 0)),
     .c 9 (.f 30) [.t 8],
     .r 4 (.mv (.t 9))])
  (.seq (.reg [.r 10 (.mv (.t 4)),
     .r 11 (.bin .neq (.t 10) (.c (.d (.int .i64 0))))])
  (.cond (.t 11)
    (.seq (.reg [.r 12 (.mv (.t 4)),
       .r 2 (.mv (.c (.d (.str [])))),
       .r 3 (.mv (.t 12))])
    .ret)
    .skip)))
  (.seq (.reg [.w 5 (.bldM 68 5)])
  (.seq (.seq (.reg [.r 13 (.mv (.t 0)),
     .r 14 (.len (.t 13)),
     .r 15 (.mv (.c (.d (.int .i64 0))))])
  sc_desk_Text_B1)
  (.seq (.reg [.p (some 34) (.f 34) [.t 5],
     .r 2 (.mv (.t 34)),
     .r 3 (.mv (.c (.d (.int .i64 0))))])
  .ret)))))
theorem fit_desk_Text : fits Tryz.prog 14 Tryz.f14 sc_desk_Text [.t 2, .t 3] 1 = true := by kernel_rfl

set_option maxRecDepth 100000 in
set_option maxHeartbeats 40000000 in
noncomputable def sims_G1_5_2 : (∀ (x0 : List Tapi_Record), {m : Option ((List UInt8) × Int) // ∀ r, m = some r → PureSpec Tryz.prog 14 [.slice (List.map rTapi_Record x0)] (.tup [.str r.1, .int .i64 r.2])}) := by
  (intro x0; apply Subtype.mk; intro r hm; apply pure_walk Tryz.func14 fit_desk_Text; unfold sc_desk_Text)
  repeat' (first | with_reducible refine W_seq ?_ | with_reducible refine W_reg ?_ | with_reducible refine W_block ?_ | with_reducible refine W_skip ?_ | with_reducible refine W_ret ?_ | with_reducible refine W_exit ?_ | with_reducible refine O_nil ?_ | with_reducible refine K_seq ?_ | with_reducible refine K_seqE ?_ | with_reducible refine K_seqR ?_ | with_reducible refine K_block ?_ | with_reducible refine K_blockR ?_ | with_reducible refine K_blockE ?_ | ((with_reducible apply K_blockN); decide) | with_reducible refine O_o2r ?_ | ((with_reducible apply O_idxr hm); (iterate 2 (simp only [push_cast, seval]; rfl)); (intro _; rfl); intro e hm) | ((with_reducible apply O_idxVr hm); (iterate 3 (simp only [push_cast, seval]; rfl)); intro e hm) | ((with_reducible apply O_r); (simp only [push_cast, seval]; rfl); (first | exact trivial | omega)) | ((with_reducible apply O_ldV1r hm); (iterate 2 (simp only [push_cast, seval]; rfl)); (intro _; rfl); intro e hm) | ((with_reducible apply O_ldAVr hm); (iterate 2 (simp only [push_cast, seval]; rfl)); (intro _; rfl); intro e hm) | ((with_reducible apply O_strr hm); (iterate 2 (simp only [push_cast, seval]; rfl)); intro hm) | ((with_reducible apply W_condT); (focus (simp only [push_cast, seval]; done))) | ((with_reducible apply W_condF); (focus (simp only [push_cast, seval]; done))) | ((with_reducible apply O_cF hm); (simp only [push_cast, seval]; rfl); (first | apply spec_desk_CheckArchive _ | apply spec_desk_body _ | apply spec_strings_Builder_WriteString _ _ | apply spec_strings_Builder_Len _ | apply spec_strings_Builder_String _); (any_goals ((repeat' (first | rfl | (with_reducible first | apply fT_Tapi_Record | apply f_optN | apply f_optS | apply f_some | apply f_tup | apply f_agg | apply f_ptr | apply f_fn | apply dv_slice | apply sv_d | apply f_cons | apply fold_nil | apply fold_cons | apply fold_app | apply f_rowI | apply f_rowY | apply f_rowS | apply f_rowB | apply f_rowL) | (with_reducible apply f_byte; decide))); done)); intro x hm) | ((with_reducible apply O_w); (simp only [push_cast, seval]; rfl); (first | exact trivial | omega)) | ((with_reducible apply O_stVA hm); (iterate 4 (simp only [push_cast, seval]; rfl)); (focus ((repeat' (first | rfl | (with_reducible first | apply fT_Tapi_Record | apply f_optN | apply f_optS | apply f_some | apply f_tup | apply f_agg | apply f_ptr | apply f_fn | apply dv_slice | apply sv_d | apply f_cons | apply fold_nil | apply fold_cons | apply fold_app | apply f_rowI | apply f_rowY | apply f_rowS | apply f_rowB | apply f_rowL) | (with_reducible apply f_byte; decide))); done)); decide; (intro _; rfl); intro e hm) | ((with_reducible apply O_stV hm); (iterate 3 (simp only [push_cast, seval]; rfl)); rfl; (intro _; rfl); rfl; (focus (intro a; simp only [push_cast, seval]; rfl)); (focus (intro a; (repeat' (first | rfl | with_reducible apply eT_Tapi_Record)); done)); intro e hm) | ((with_reducible apply S_condB hm); (simp only [push_cast, seval]; rfl); intro hm; rotate_left; intro hm) | ((with_reducible apply K_end2 hm); (focus (simp only [resOf, resL, RV.get, push_cast, seval]; rfl)); (focus (first | (dsimp only; done) | (dsimp only; rfl) | rfl)); (focus ((repeat' (first | rfl | (with_reducible first | apply fT_Tapi_Record | apply f_optN | apply f_optS | apply f_some | apply f_tup | apply f_agg | apply f_ptr | apply f_fn | apply dv_slice | apply sv_d | apply f_cons | apply fold_nil | apply fold_cons | apply fold_app | apply f_rowI | apply f_rowY | apply f_rowS | apply f_rowB | apply f_rowL) | (with_reducible apply f_byte; decide))); done))) | ((with_reducible apply K_leave hm); intro r hm) | ((with_reducible apply K_leaveR hm); intro r hm) | ((apply S_loopY (b := 0) (X := sc_desk_Text_B1) (x := sc_desk_Text_L1) rfl (fun (c : SV × SV) (s : (List UInt8) × Int) => st [(5, .ref 5 0), (13, c.1), (14, c.2), (15, .d (.int .i64 s.2))] [(5, .bld 68 5 s.1)]) (c := (_, _)) (s0 := (_, _)) hm); (focus (first | (dsimp only; done) | (dsimp only; rfl) | rfl)); (with_reducible refine Then.mk ?_ ?_)) | ((apply K_next (s' := (_, _)) hm); (focus (first | (dsimp only; done) | (dsimp only; rfl) | rfl))) | ((apply K_brk (s' := (_, _)) hm); (focus (first | (dsimp only; done) | (dsimp only; rfl) | rfl))) | (((with_reducible apply K_brkN hm); (focus decide); intro r hm)) | (((with_reducible apply K_brkR hm); intro r hm)) | ((with_reducible refine O_bld ?_)) | (((with_reducible apply O_pB hm); (focus (simp only [push_cast, seval]; (try rfl); done)); (focus (simp only [push_cast, seval]; (try rfl); done)); (focus (simp only [push_cast, seval]; (try rfl); done)); (first | apply spec_desk_CheckArchive _ | apply spec_desk_body _ | apply spec_strings_Builder_WriteString _ _ | apply spec_strings_Builder_Len _ | apply spec_strings_Builder_String _); (any_goals (focus ((repeat' (first | rfl | (with_reducible first | apply fT_Tapi_Record | apply f_optN | apply f_optS | apply f_some | apply f_tup | apply f_agg | apply f_ptr | apply f_fn | apply dv_slice | apply sv_d | apply f_cons | apply fold_nil | apply fold_cons | apply fold_app | apply f_rowI | apply f_rowY | apply f_rowS | apply f_rowB | apply f_rowL) | (with_reducible apply f_byte; decide))); done))); (focus (intro _; exact ⟨rfl, rfl⟩)); intro y hm)) | (((with_reducible apply LoopB.of); (focus (first | (dsimp only; done) | (dsimp only; rfl) | rfl)); (focus ((intro _; repeat' (first | with_reducible exact impC_end | with_reducible exact impC_endF | with_reducible refine impC_seq ?_ | with_reducible refine impC_block ?_ | ((with_reducible refine impC_rnd ?_); intro _) | ((with_reducible refine impC_brk ?_); intro _))))); (intro s o hm; first | unfold sc_desk_Text_L1); rotate_left; intro s hm)) | (((apply imp_stT; (repeat' (first | with_reducible exact keepT_nil | with_reducible exact keepC_nil | with_reducible apply keepT_cons | with_reducible apply keepC_cons | ((with_reducible apply svle_eq); (focus (first | (simp only [push_cast, seval]; rfl) | rfl)); (focus ((repeat' (first | rfl | (with_reducible first | apply fT_Tapi_Record | apply f_optN | apply f_optS | apply f_some | apply f_tup | apply f_agg | apply f_ptr | apply f_fn | apply dv_slice | apply sv_d | apply f_cons | apply fold_nil | apply fold_cons | apply fold_app | apply f_rowI | apply f_rowY | apply f_rowS | apply f_rowB | apply f_rowL) | (with_reducible apply f_byte; decide))); done))) | ((with_reducible apply svle_td); (focus (first | (simp only [push_cast, seval]; rfl) | rfl)); (focus (first | (simp only [push_cast, seval]; rfl) | rfl)); (focus ((repeat' (first | rfl | (with_reducible first | apply fT_Tapi_Record | apply f_optN | apply f_optS | apply f_some | apply f_tup | apply f_agg | apply f_ptr | apply f_fn | apply dv_slice | apply sv_d | apply f_cons | apply fold_nil | apply fold_cons | apply fold_app | apply f_rowI | apply f_rowY | apply f_rowS | apply f_rowB | apply f_rowL) | (with_reducible apply f_byte; decide))); done))) | ((with_reducible apply chle_eq); (focus (first | (simp only [push_cast, seval]; rfl) | rfl)); (first | with_reducible exact chle_rfl rfl | with_reducible exact chle_map0 | with_reducible apply chle_vec | with_reducible apply chle_box)) | (with_reducible first | apply cT_Tapi_Record | apply r_shS | apply r_shI | apply r_rflO | apply r_oneO | apply r_appO | apply r_nilO | apply c_ownN | apply c_ownL | apply vc_rfl | apply vc_nil | apply vc_cons | apply r_rfl | apply r_rows | apply r_nil | apply r_app | apply r_cons | apply c_rowI | apply c_rowY | apply c_rowS | apply c_rowB | apply c_rowL))); done))))
noncomputable def m_desk_Text (x0 : List Tapi_Record) : Option ((List UInt8) × Int) := (sims_G1_5_2 x0).1
theorem spec_desk_Text (x0 : List Tapi_Record) : ∀ r, m_desk_Text x0 = some r → PureSpec Tryz.prog 14 [.slice (List.map rTapi_Record x0)] (.tup [.str r.1, .int .i64 r.2]) := (sims_G1_5_2 x0).2

/-- interchange/interchangelaw12.awake -/
def sc_interchangelaw12_awake : SC :=
  (.seq (.reg [.r 0 (.mv (.c (.d (.bool false))))])
  (.seq (.reg [.r 4 (.bslice 6 []),
     .c 5 (.f 37) [.t 4, .c (.d (.int .i64 0))],
     .r 3 (.mv (.t 5)),
     .r 6 (.ext (.t 3) 0),
     .r 7 (.ext (.t 3) 1),
     .r 1 (.mv (.t 6)),
     .r 2 (.mv (.t 7))])
  (.seq (.reg (.r 8 (.mv (.t 2)) :: .r 9 (.bin .eql (.t 8) (.c (.d (.int .i64 0)))) :: .r 10 (.mv (.t 9)) :: gapp [11, 12] 10 true (.r 11 (.mv (.t 1)) :: .r 12 (.bin .eql (.t 11) (.c (.d (.str [48, 48, 48, 48, 48, 48, 48, 48, 48, 48, 48, 48, 48, 48, 48, 48])))) :: []) (.r 13 (.pick (.t 10) (.t 12) (.c (.d (.bool false)))) :: .r 0 (.mv (.t 13)) :: [])))
  .ret)))
theorem fit_interchangelaw12_awake : fits Tryz.prog 17 Tryz.f17 sc_interchangelaw12_awake [.t 0] 0 = true := by kernel_rfl

set_option maxRecDepth 100000 in
set_option maxHeartbeats 40000000 in
noncomputable def sims_G1_6_0 : ({m : Option (Bool) // ∀ r, m = some r → PureSpec Tryz.prog 17 [] (.bool r)}) := by
  (apply Subtype.mk; intro r hm; apply pure_walk Tryz.func17 fit_interchangelaw12_awake; unfold sc_interchangelaw12_awake)
  repeat' (first | with_reducible refine W_seq ?_ | with_reducible refine W_reg ?_ | with_reducible refine W_block ?_ | with_reducible refine W_skip ?_ | with_reducible refine W_ret ?_ | with_reducible refine W_exit ?_ | with_reducible refine O_nil ?_ | with_reducible refine K_seq ?_ | with_reducible refine K_seqE ?_ | with_reducible refine K_seqR ?_ | with_reducible refine K_block ?_ | with_reducible refine K_blockR ?_ | with_reducible refine K_blockE ?_ | ((with_reducible apply K_blockN); decide) | ((with_reducible apply O_r); (simp only [push_cast, seval]; rfl); (first | exact trivial | omega)) | ((with_reducible apply O_and hm); (simp only [push_cast, seval]; rfl); rfl; intro v hm; rotate_left; intro v g hm) | ((with_reducible apply W_condT); (focus (simp only [push_cast, seval]; done))) | ((with_reducible apply W_condF); (focus (simp only [push_cast, seval]; done))) | ((with_reducible apply O_cF hm); (simp only [push_cast, seval]; rfl); (first | apply spec_desk_Head _ _); (any_goals ((repeat' (first | rfl | (with_reducible first | apply fT_Tapi_Record | apply f_optN | apply f_optS | apply f_some | apply f_tup | apply f_agg | apply f_ptr | apply f_fn | apply dv_slice | apply sv_d | apply f_cons | apply fold_nil | apply fold_cons | apply fold_app | apply f_rowI | apply f_rowY | apply f_rowS | apply f_rowB | apply f_rowL) | (with_reducible apply f_byte; decide))); done)); intro x hm) | ((with_reducible apply S_condB hm); (simp only [push_cast, seval]; rfl); intro hm; rotate_left; intro hm) | ((with_reducible apply K_endS hm); (focus (simp only [resOf, resL, RV.get, push_cast, seval]; rfl)); (focus ((repeat' (first | rfl | (with_reducible first | apply fT_Tapi_Record | apply f_optN | apply f_optS | apply f_some | apply f_tup | apply f_agg | apply f_ptr | apply f_fn | apply dv_slice | apply sv_d | apply f_cons | apply fold_nil | apply fold_cons | apply fold_app | apply f_rowI | apply f_rowY | apply f_rowS | apply f_rowB | apply f_rowL) | (with_reducible apply f_byte; decide))); done))) | ((with_reducible apply K_bool hm); (simp only [push_cast, seval]; rfl)))
noncomputable def m_interchangelaw12_awake : Option (Bool) := (sims_G1_6_0 ).1
theorem spec_interchangelaw12_awake : ∀ r, m_interchangelaw12_awake  = some r → PureSpec Tryz.prog 17 [] (.bool r) := (sims_G1_6_0 ).2

/-- interchange/interchangelaw12.DeskArchivesComeBack -/
def sc_interchangelaw12_DeskArchivesComeBack : SC :=
  (.seq (.reg [.r 4 (.mv (.c (.d (.bool false))))])
  (.seq (.seq (.reg [.r 15 (.mv (.t 0)),
     .c 16 (.f 14) [.t 15],
     .r 14 (.mv (.t 16)),
     .r 17 (.ext (.t 14) 0),
     .r 18 (.ext (.t 14) 1),
     .r 5 (.mv (.t 17)),
     .r 6 (.mv (.t 18))])
  (.seq (.reg [.r 19 (.mv (.t 6)),
     .r 20 (.bin .eql (.t 19) (.c (.d (.int .i64 0))))])
  (.cond (.t 20)
    (.seq (.reg [.r 22 (.mv (.t 5)),
       .c 23 (.f 15) [.t 22],
       .r 21 (.mv (.t 23)),
       .r 24 (.ext (.t 21) 0),
       .r 25 (.ext (.t 21) 1),
       .r 26 (.ext (.t 21) 2),
       .r 7 (.mv (.t 24)),
       .r 8 (.mv (.t 25)),
       .r 9 (.mv (.t 26))])
    (.seq (.reg (.r 27 (.mv (.t 9)) :: .r 28 (.bin .neq (.t 27) (.c (.d (.int .i64 0)))) :: .r 29 (.mv (.t 28)) :: gapp [30, 31] 29 false (.r 30 (.mv (.t 8)) :: .r 31 (.bin .neq (.t 30) (.c (.d (.int .i64 0)))) :: []) (.r 32 (.pick (.t 29) (.c (.d (.bool true))) (.t 31)) :: .r 33 (.mv (.t 32)) :: gapp [34, 35, 36, 37] 33 false (.r 34 (.mv (.t 7)) :: .r 35 (.mv (.t 0)) :: .c 36 (.f 16) [.t 34, .t 35] :: .r 37 (.not (.t 36)) :: []) (.r 38 (.pick (.t 33) (.c (.d (.bool true))) (.t 37)) :: []))))
    (.cond (.t 38)
      (.seq (.reg [.r 4 (.mv (.c (.d (.bool false))))])
      .ret)
      .skip)))
    .skip)))
  (.seq (.reg [.r 40 (.mv (.t 1)),
     .c 41 (.f 15) [.t 40],
     .r 39 (.mv (.t 41)),
     .r 42 (.ext (.t 39) 0),
     .r 43 (.ext (.t 39) 1),
     .r 44 (.ext (.t 39) 2),
     .r 10 (.mv (.t 42)),
     .r 11 (.mv (.t 43)),
     .r 12 (.mv (.t 44))])
  (.seq (.seq (.reg [.r 45 (.mv (.t 12)),
     .r 46 (.bin .neq (.t 45) (.c (.d (.int .i64 0))))])
  (.cond (.t 46)
    (.seq (.reg (.r 47 (.mv (.t 10)) :: .r 48 (.len (.t 47)) :: .r 49 (.bin .eql (.t 48) (.c (.d (.int .i64 0)))) :: .r 50 (.mv (.t 49)) :: gapp [51] 50 true (.c 51 (.f 17) [] :: []) (.r 52 (.pick (.t 50) (.t 51) (.c (.d (.bool false)))) :: .r 4 (.mv (.t 52)) :: [])))
    .ret)
    .skip))
  (.seq (.reg [.r 54 (.mv (.t 10)),
     .c 55 (.f 14) [.t 54],
     .r 53 (.mv (.t 55)),
     .r 56 (.ext (.t 53) 0),
     .r 57 (.ext (.t 53) 1),
     .r 13 (.mv (.t 56)),
     .r 12 (.mv (.t 57))])
  (.seq (.reg (.r 58 (.mv (.t 12)) :: .r 59 (.bin .eql (.t 58) (.c (.d (.int .i64 0)))) :: .r 60 (.mv (.t 59)) :: gapp [61, 62, 63] 60 true (.r 61 (.mv (.t 13)) :: .r 62 (.mv (.t 1)) :: .r 63 (.bin .eql (.t 61) (.t 62)) :: []) (.r 64 (.pick (.t 60) (.t 63) (.c (.d (.bool false)))) :: .r 65 (.mv (.t 64)) :: gapp [66] 65 true (.c 66 (.f 17) [] :: []) (.r 67 (.pick (.t 65) (.t 66) (.c (.d (.bool false)))) :: .r 4 (.mv (.t 67)) :: []))))
  .ret))))))
theorem fit_interchangelaw12_DeskArchivesComeBack : fits Tryz.prog 4 Tryz.f4 sc_interchangelaw12_DeskArchivesComeBack [.t 4] 2 = true := by kernel_rfl

set_option maxRecDepth 100000 in
set_option maxHeartbeats 40000000 in
noncomputable def sims_G1_7_0 : (∀ (x0 : List Tapi_Record) (x1 : List UInt8), {m : Option (Bool) // ∀ r, m = some r → PureSpec Tryz.prog 4 [.slice (List.map rTapi_Record x0), .str x1] (.bool r)}) := by
  (intro x0 x1; apply Subtype.mk; intro r hm; apply pure_walk Tryz.func4 fit_interchangelaw12_DeskArchivesComeBack; unfold sc_interchangelaw12_DeskArchivesComeBack)
  repeat' (first | with_reducible refine W_seq ?_ | with_reducible refine W_reg ?_ | with_reducible refine W_block ?_ | with_reducible refine W_skip ?_ | with_reducible refine W_ret ?_ | with_reducible refine W_exit ?_ | with_reducible refine O_nil ?_ | with_reducible refine K_seq ?_ | with_reducible refine K_seqE ?_ | with_reducible refine K_seqR ?_ | with_reducible refine K_block ?_ | with_reducible refine K_blockR ?_ | with_reducible refine K_blockE ?_ | ((with_reducible apply K_blockN); decide) | ((with_reducible apply O_r); (simp only [push_cast, seval]; rfl); (first | exact trivial | omega)) | ((with_reducible apply O_and hm); (simp only [push_cast, seval]; rfl); rfl; intro v hm; rotate_left; intro v g hm) | ((with_reducible apply O_or hm); (simp only [push_cast, seval]; rfl); rfl; intro v hm; rotate_left; intro v g hm) | ((with_reducible apply W_condT); (focus (simp only [push_cast, seval]; done))) | ((with_reducible apply W_condF); (focus (simp only [push_cast, seval]; done))) | ((with_reducible apply O_cF hm); (simp only [push_cast, seval]; rfl); (first | apply spec_desk_Text _ | apply spec_desk_Read _ | apply spec_slices_Equal_interchange_api_Record_interchange_api_Record _ _ | apply spec_interchangelaw12_awake); (any_goals ((repeat' (first | rfl | (with_reducible first | apply fT_Tapi_Record | apply f_optN | apply f_optS | apply f_some | apply f_tup | apply f_agg | apply f_ptr | apply f_fn | apply dv_slice | apply sv_d | apply f_cons | apply fold_nil | apply fold_cons | apply fold_app | apply f_rowI | apply f_rowY | apply f_rowS | apply f_rowB | apply f_rowL) | (with_reducible apply f_byte; decide))); done)); intro x hm) | ((with_reducible apply S_condB hm); (simp only [push_cast, seval]; rfl); intro hm; rotate_left; intro hm) | ((with_reducible apply K_endS hm); (focus (simp only [resOf, resL, RV.get, push_cast, seval]; rfl)); (focus ((repeat' (first | rfl | (with_reducible first | apply fT_Tapi_Record | apply f_optN | apply f_optS | apply f_some | apply f_tup | apply f_agg | apply f_ptr | apply f_fn | apply dv_slice | apply sv_d | apply f_cons | apply fold_nil | apply fold_cons | apply fold_app | apply f_rowI | apply f_rowY | apply f_rowS | apply f_rowB | apply f_rowL) | (with_reducible apply f_byte; decide))); done))) | ((with_reducible apply K_bool hm); (simp only [push_cast, seval]; rfl)))
noncomputable def m_interchangelaw12_DeskArchivesComeBack (x0 : List Tapi_Record) (x1 : List UInt8) : Option (Bool) := (sims_G1_7_0 x0 x1).1
theorem spec_interchangelaw12_DeskArchivesComeBack (x0 : List Tapi_Record) (x1 : List UInt8) : ∀ r, m_interchangelaw12_DeskArchivesComeBack x0 x1 = some r → PureSpec Tryz.prog 4 [.slice (List.map rTapi_Record x0), .str x1] (.bool r) := (sims_G1_7_0 x0 x1).2

end Go.Proofs.YtdkncdkdbddgoaaGreatDoor

/-
  A stub.
-/


/-
  How the parameters of the laws of this seat read, and a world in which the listed tables lie (printed by wip/tool/row.py).
-/
namespace Go.Proofs.YtdkncdkdbddgoaaGreatDoor
open Go.ChangeShapes Go.WideShapes Go.ChangeAt Go.RowKit
set_option linter.unusedSimpArgs false
set_option linter.unusedVariables false
theorem and_t {a b : Bool} (h1 : a = true) (h2 : b = true) : (a && b) = true := by rw [h1, h2]; rfl
/-- How a value of a type reads. -/
def Wt (P : Program) (n : Nat) (t : TypeId) {α : Type} (row : α → List DV) (ok : α → Prop) : Prop := ∀ m ds, WT P (m + n) t ds → ∃ x, ds = row x ∧ ok x
theorem Wt.up {P : Program} {n : Nat} {t : TypeId} {α : Type} {row : α → List DV} {ok : α → Prop} (h : Wt P n t row ok) (k : Nat) : Wt P (n + k) t row ok := fun m ds hd => h (m + k) ds (by rwa [show m + k + n = m + (n + k) by omega])
def okI (n : Int) : Prop := -9223372036854775808 ≤ n ∧ n ≤ 9223372036854775807
def okS (s : List UInt8) : Prop := s.length ≤ 9223372036854775807
def okB (_ : Bool) : Prop := True
def okL {α : Type} (ok : α → Prop) (l : List α) : Prop := l.length ≤ 9223372036854775807 ∧ ∀ a ∈ l, ok a
theorem WT_struct {P : Program} {n : Nat} {t : TypeId} {fs : Array Field} {ds : List DV} (hu : P.underlying t = some (.struct fs)) (h : WT P (n + 1) t ds) : WTS (WT P n) fs.toList ds := by
  simp only [WT, hu] at h; exact h
theorem wt_int {P : Program} {t : TypeId} (hu : P.underlying t = some (.int .i64)) : Wt P 1 t rowI okI := by
  intro m ds h
  simp only [WT, hu] at h
  obtain ⟨k, rfl, hw⟩ := h
  refine ⟨k, rfl, ?_⟩
  simp [Lit.wf] at hw
  have e : IntKind.i64.min = -9223372036854775808 := by decide
  unfold okI; omega
theorem wt_bool {P : Program} {t : TypeId} (hu : P.underlying t = some .bool) : Wt P 1 t rowB okB := by
  intro m ds h
  simp only [WT, hu] at h
  obtain ⟨b, rfl⟩ := h
  exact ⟨b, rfl, trivial⟩
theorem wt_str {P : Program} {t : TypeId} (hu : P.underlying t = some .string) : Wt P 1 t rowS okS := by
  intro m ds h
  simp only [WT, hu] at h
  obtain ⟨b, rfl, hl⟩ := h
  exact ⟨b, rfl, by unfold okS; unfold maxLen at hl; omega⟩
theorem wt_slice {P : Program} {n : Nat} {t e : TypeId} {α : Type} {row : α → List DV} {ok : α → Prop} (hu : P.underlying t = some (.slice e)) (he : Wt P n e row ok) : Wt P (n + 1) t (rowL row) (okL ok) := by
  intro m ds h
  rw [show m + (n + 1) = (m + n) + 1 by omega] at h
  simp only [WT, hu] at h
  obtain ⟨rows, rfl, hl, hr⟩ := h
  have : ∀ rows : List (List DV), (∀ r ∈ rows, WT P (m + n) e r) → ∃ l : List α, rows = l.map row ∧ ∀ a ∈ l, ok a := by
    intro rows
    induction rows with
    | nil => intro _; exact ⟨[], rfl, by simp⟩
    | cons r rows ih =>
      intro h
      obtain ⟨a, rfl, ha⟩ := he m r (h r (by simp))
      obtain ⟨l, rfl, hl⟩ := ih (fun r hr => h r (by simp [hr]))
      exact ⟨a :: l, rfl, by simpa using ⟨ha, hl⟩⟩
  obtain ⟨l, rfl, hok⟩ := this rows hr
  exact ⟨l, rfl, by unfold maxLen at hl; simp at hl; omega, hok⟩
theorem ownK : ownKnob Tryz.prog.godebug = none := by kernel_rfl
theorem laidOut : laidOutB Tryz.prog = true := by kernel_rfl
theorem wt3 : Wt Tryz.prog 1 3 rowI okI := wt_int Tryz.underlying3
theorem wt9 : Wt Tryz.prog 1 9 rowS okS := wt_str Tryz.underlying9
theorem wt4 : Wt Tryz.prog 1 4 rowB okB := wt_bool Tryz.underlying4
def okTapi_Record (x : Tapi_Record) : Prop := okI x.fTime ∧ okS x.fKind ∧ okS x.fKey ∧ okS x.fDigest ∧ okB x.fDropped ∧ okS x.fText
set_option maxRecDepth 100000 in
theorem wt42 : Wt Tryz.prog 2 42 rTapi_Record okTapi_Record := by
  intro m ds h
  have h := WT_struct Tryz.underlying42 h
  simp only [WTS] at h
  obtain ⟨a0, _, rfl, h0, a1, _, rfl, h1, a2, _, rfl, h2, a3, _, rfl, h3, a4, _, rfl, h4, a5, _, rfl, h5, rfl⟩ := h
  obtain ⟨x0, rfl, o0⟩ := (wt3.up 0) m _ h0
  obtain ⟨x1, rfl, o1⟩ := (wt9.up 0) m _ h1
  obtain ⟨x2, rfl, o2⟩ := (wt9.up 0) m _ h2
  obtain ⟨x3, rfl, o3⟩ := (wt9.up 0) m _ h3
  obtain ⟨x4, rfl, o4⟩ := (wt4.up 0) m _ h4
  obtain ⟨x5, rfl, o5⟩ := (wt9.up 0) m _ h5
  refine ⟨⟨x0, x1, x2, x3, x4, x5⟩, ?_, o0, o1, o2, o3, o4, o5⟩
  simp only [rTapi_Record, rowI, rowY, rowS, rowB, rowL, List.append_assoc, List.cons_append, List.nil_append, List.append_nil]
theorem wt35 : Wt Tryz.prog 3 35 (rowL rTapi_Record) (okL okTapi_Record) := wt_slice Tryz.underlying35 wt42
def layVals : Nat → DataW Unit → List Value
  | 0, _ => []
  | _ + 1, .lit (.int k n) => [.int k n]
  | n + 1, .agg ps => ps.flatMap (layVals n)
  | _ + 1, _ => []
/-- The settled world, with the listed tables in it. -/
def layCells (l : List Value) : Obj → Obj
  | .cells _ t frozen => .cells l.toArray t frozen
  | o => o
noncomputable def lowWorld : Nat := (World.holding Tryz.prog default ⟨#[], #[], []⟩).heap.size
noncomputable def laidWorld (os : Os) : World :=
  { World.holding Tryz.prog os ⟨#[], #[], []⟩ with
    heap := ((((((((World.holding Tryz.prog os ⟨#[.cells #[.string ⟨#[118, 97, 108, 117, 101, 32, 111, 117, 116, 32, 111, 102, 32, 114, 97, 110, 103, 101]⟩] 193, .cells #[.string ⟨#[105, 110, 118, 97, 108, 105, 100, 32, 115, 121, 110, 116, 97, 120]⟩] 193], #[], []⟩).heap.modify 6 (layCells (layVals 5 Rows.laid_math_bits_deBruijn32tab))).modify 7 (layCells (layVals 5 Rows.laid_math_bits_deBruijn64tab))).modify 3 (layCells (layVals 5 Rows.laid_internal_strconv_uint64pow10))).modify 5 (layCells (layVals 5 Rows.laid_unicode_utf8_acceptRanges))).modify 2 (layCells [.iface 191 (.pointer (some ⟨lowWorld + 0, 0, none⟩))])).modify 1 (layCells [.iface 191 (.pointer (some ⟨lowWorld + 1, 0, none⟩))])).modify 4 (layCells (layVals 5 Rows.laid_unicode_utf8_first))) }
end Go.Proofs.YtdkncdkdbddgoaaGreatDoor

/-
  Plain laws: small computations, and loops whose rounds are known.
-/
namespace Go.Proofs.YtdkncdkdbddgoaaGreatDoor
set_option linter.unusedSimpArgs false
set_option linter.unusedVariables false
open Go.RowKit

/-! ### Small computations that cannot fail -/
theorem andO_some (a b : Bool) : andO a (some b) = some (a && b) := by cases a <;> rfl
theorem orO_some (a b : Bool) : orO a (some b) = some (a || b) := by cases a <;> rfl
theorem getI_nat {α : Type} (l : List α) (i : Nat) : getI l (i : Int) = l[i]? := by simp [getI]
theorem thenO_some {R : Type} {c : Option Unit} {m : Option R} (h : c = some ()) : thenO c m = m := by rw [h]; rfl
theorem lenO_ok {n : Nat} (h : n ≤ 137438953472) : lenO n = some () := by simp [lenO, h]
theorem wrapN (i : Nat) (h : i < 9223372036854775807) : IntKind.i64.wrap ((i : Int) + 1) = ((i + 1 : Nat) : Int) := by rw [wrap64 _ (by omega) (by omega)]; simp


/-! ### Loops whose rounds are known -/
theorem loop_trace {S A : Type} {f : S → Option (S ⊕ A)} {a : A} (st : Nat → S) (n : Nat) (hs : ∀ i, i < n → f (st i) = some (.inl (st (i + 1)))) (he : f (st n) = some (.inr a)) : loopC f (st 0) = some a := by
  have : ∀ k, k ≤ n → loopC f (st (n - k)) = some a := by
    intro k
    induction k with
    | zero => intro _; rw [loopC_eq, Nat.sub_zero, he]
    | succ k ih =>
      intro hk
      rw [loopC_eq, hs (n - (k + 1)) (by omega), show n - (k + 1) + 1 = n - k by omega]
      exact ih (by omega)
  have := this n (Nat.le_refl n)
  rwa [Nat.sub_self] at this
theorem bind_loop {S A R : Type} {f : S → Option (S ⊕ A)} {s0 : S} {k : A → Option R} {a : A} {r : Option R} (h : loopC f s0 = some a) (hk : k a = r) : (loopC f s0).bind k = r := by rw [h]; exact hk
/-- The first that there is. -/
def firstS {A : Type} (g : Nat → Option A) : Nat → Nat → Option A
  | _, 0 => none
  | i, n + 1 => match g i with
    | some a => some a
    | none => firstS g (i + 1) n
theorem firstS_skip {A : Type} {g : Nat → Option A} : ∀ (i n k : Nat), k ≤ n → (∀ j, i ≤ j → j < i + k → g j = none) → firstS g i n = firstS g (i + k) (n - k)
  | i, n, 0, _, _ => by simp
  | i, 0, k + 1, h, _ => by omega
  | i, n + 1, k + 1, h, hz => by
    have h1 := hz i (by omega) (by omega)
    simp only [firstS, h1]
    rw [firstS_skip (i + 1) n k (by omega) (fun j hj hj' => hz j (by omega) (by omega))]
    congr 1 <;> omega
theorem firstS_none {A : Type} {g : Nat → Option A} {n : Nat} (h : ∀ j, j < n → g j = none) : firstS g 0 n = none := by
  rw [firstS_skip 0 n n (by omega) (fun j _ hj => h j (by omega)), Nat.sub_self]; rfl
theorem firstS_some {A : Type} {g : Nat → Option A} {n k : Nat} {a : A} (hk : k < n) (hb : ∀ j, j < k → g j = none) (ha : g k = some a) : firstS g 0 n = some a := by
  rw [firstS_skip 0 n k (by omega) (fun j _ hj => hb j (by omega))]
  obtain ⟨m, hm⟩ : ∃ m, n - k = m + 1 := ⟨n - k - 1, by omega⟩
  rw [hm, Nat.zero_add]
  simp only [firstS, ha]
theorem firstS_cases {A : Type} (g : Nat → Option A) (n : Nat) : (firstS g 0 n = none ∧ ∀ j, j < n → g j = none) ∨ ∃ k a, k < n ∧ (∀ j, j < k → g j = none) ∧ g k = some a ∧ firstS g 0 n = some a := by
  by_cases h : ∃ k, k < n ∧ (g k).isSome = true
  · have : ∃ k, (k < n ∧ (g k).isSome = true) ∧ ∀ j, j < k → ¬ (j < n ∧ (g j).isSome = true) := by
      obtain ⟨k, hk⟩ := h
      induction k using Nat.strongRecOn with
      | _ k ih =>
        by_cases hj : ∃ j, j < k ∧ (j < n ∧ (g j).isSome = true)
        · obtain ⟨j, h1, h2⟩ := hj; exact ih j h1 h2
        · exact ⟨k, hk, fun j h1 h2 => hj ⟨j, h1, h2⟩⟩
    obtain ⟨k, ⟨h1, h2⟩, h3⟩ := this
    obtain ⟨a, ha⟩ := Option.isSome_iff_exists.1 h2
    have hb : ∀ j, j < k → g j = none := fun j hj => by
      have := h3 j hj
      cases hg : g j with
      | none => rfl
      | some b => exact absurd ⟨by omega, by simp [hg]⟩ this
    exact .inr ⟨k, a, h1, hb, ha, firstS_some h1 hb ha⟩
  · have hn : ∀ j, j < n → g j = none := fun j hj => by
      cases hg : g j with
      | none => rfl
      | some b => exact absurd ⟨j, hj, by simp [hg]⟩ h
    exact .inl ⟨firstS_none hn, hn⟩
theorem loop_first {S A : Type} {f : S → Option (S ⊕ A)} {z : A} (st : Nat → S) (n : Nat) (g : Nat → Option A) (hs : ∀ i, i < n → g i = none → f (st i) = some (.inl (st (i + 1)))) (hx : ∀ i a, i < n → g i = some a → f (st i) = some (.inr a)) (he : f (st n) = some (.inr z)) : loopC f (st 0) = some ((firstS g 0 n).getD z) := by
  rcases firstS_cases g n with ⟨h1, h2⟩ | ⟨k, a, h1, h2, h3, h4⟩
  · rw [h1, Option.getD_none]
    exact loop_trace st n (fun i hi => hs i hi (h2 i hi)) he
  · rw [h4, Option.getD_some]
    exact loop_trace st k (fun i hi => hs i (by omega) (h2 i hi)) (hx k a h1 h3)
theorem take_snoc {α : Type} {l : List α} {i : Nat} {e : α} (h : l[i]? = some e) : l.take (i + 1) = l.take i ++ [e] := by rw [List.take_add_one, h]; rfl
theorem get_lt {α : Type} {l : List α} {i : Nat} (h : i < l.length) : ∃ e, l[i]? = some e := ⟨_, List.getElem?_eq_getElem h⟩
theorem lt_dec {i n : Nat} (h : i < n) : decide ((i : Int) < (n : Int)) = true := by simpa using h
theorem lt_dec_self (n : Nat) : decide ((n : Int) < (n : Int)) = false := by simp
end Go.Proofs.YtdkncdkdbddgoaaGreatDoor

/-
  Plain laws: loops over lists with a state and an early end; folds over nested lists.
-/
namespace Go.Proofs.YtdkncdkdbddgoaaGreatDoor
set_option linter.unusedSimpArgs false
set_option linter.unusedVariables false
open Go.RowKit

/-- A loop over a list: the number, the state and the element give the next state or the end. -/
def runI {α S A : Type} (g : Nat → S → α → Option (S ⊕ A)) (fin : S → Option A) : List α → Nat → S → Option A
  | [], _, s => fin s
  | e :: l, i, s => match g i s e with
    | some (.inl s') => runI g fin l (i + 1) s'
    | some (.inr a) => some a
    | none => none
theorem drop_head {α : Type} {l t : List α} {e : α} {i : Nat} (hd : l.drop i = e :: t) : l[i]? = some e ∧ i < l.length ∧ l.drop (i + 1) = t := by
  refine ⟨?_, ?_, ?_⟩
  · have := congrArg (fun q => q[0]?) hd
    simpa using this
  · rcases Nat.lt_or_ge i l.length with h | h
    · exact h
    · rw [List.drop_eq_nil_of_le h] at hd; cases hd
  · have := congrArg List.tail hd
    simpa using this
theorem drop_nil_len {α : Type} {l : List α} {i : Nat} (hd : l.drop i = []) (hi : i ≤ l.length) : i = l.length := by
  have := congrArg List.length hd; simp at this; omega
theorem loop_runI {α S T A : Type} (l : List α) (mk : Nat → S → T) (g : Nat → S → α → Option (S ⊕ A)) (fin : S → Option A) {f : T → Option (T ⊕ A)}
    (hb : ∀ (i : Nat) (e : α) (s : S), l[i]? = some e → f (mk i s) = (match g i s e with | some (.inl s') => some (.inl (mk (i + 1) s')) | some (.inr a) => some (.inr a) | none => none))
    (he : ∀ s, f (mk l.length s) = (fin s).map .inr) (s : S) : loopC f (mk 0 s) = runI g fin l 0 s := by
  have : ∀ (t : List α) (i : Nat) (s : S), l.drop i = t → i ≤ l.length → loopC f (mk i s) = runI g fin t i s := by
    intro t
    induction t with
    | nil =>
      intro i s hd hi
      have := drop_nil_len hd hi
      subst this
      rw [loopC_eq, he]
      simp only [runI]
      cases fin s <;> rfl
    | cons e t ih =>
      intro i s hd hi
      obtain ⟨h1, h2, h3⟩ := drop_head hd
      rw [loopC_eq, hb i e s h1]
      simp only [runI]
      cases g i s e with
      | none => rfl
      | some o =>
        cases o with
        | inr a => rfl
        | inl s' => exact ih (i + 1) s' h3 h2
  exact this l 0 s rfl (Nat.zero_le _)
/-- A loop over a list whose state before each round is known from what is before. -/
theorem loop_pre {α T A : Type} (l : List α) (st : Nat → List α → T) {f : T → Option (T ⊕ A)} {a : A}
    (hb : ∀ (i : Nat) (e : α), l[i]? = some e → f (st i (l.take i)) = some (.inl (st (i + 1) (l.take i ++ [e]))))
    (he : f (st l.length l) = some (.inr a)) : loopC f (st 0 []) = some a := by
  have := loop_trace (f := f) (a := a) (fun i => st i (l.take i)) l.length (fun i hi => by
    obtain ⟨e, h⟩ := get_lt hi
    show f (st i (l.take i)) = some (.inl (st (i + 1) (l.take (i + 1))))
    rw [hb i e h, take_snoc h]) (by
    show f (st l.length (l.take l.length)) = _
    rw [List.take_length]; exact he)
  simpa using this
theorem get_le {α : Type} {l : List α} {i : Nat} {e : α} (h : l[i]? = some e) : i < l.length := (List.getElem?_eq_some_iff.1 h).1
end Go.Proofs.YtdkncdkdbddgoaaGreatDoor

/-
  Plain laws of the archive: digests are sixteen digits.
-/
namespace Go.Proofs.YtdkncdkdbddgoaaGreatDoor
set_option linter.unusedSimpArgs false
set_option linter.unusedVariables false
open Go.RowKit

def hexSet : List UInt8 := [48, 49, 50, 51, 52, 53, 54, 55, 56, 57, 97, 98, 99, 100, 101, 102]
def hexB (b : UInt8) : Bool := hexSet.contains b
def dig36 : List UInt8 := [48, 49, 50, 51, 52, 53, 54, 55, 56, 57, 97, 98, 99, 100, 101, 102, 103, 104, 105, 106, 107, 108, 109, 110, 111, 112, 113, 114, 115, 116, 117, 118, 119, 120, 121, 122]
theorem dig_hex (n : Int) (h0 : 0 ≤ n) (h1 : n < 16) : ∃ e, getI dig36 n = some e ∧ hexB e = true := by
  obtain ⟨k, rfl⟩ : ∃ k : Nat, n = (k : Int) := ⟨n.toNat, by omega⟩
  have : ∀ j : Fin 16, ∃ e, dig36[j.1]? = some e ∧ hexB e = true := by decide
  obtain ⟨e, h2, h3⟩ := this ⟨k, by omega⟩
  exact ⟨e, by rw [getI_nat]; exact h2, h3⟩
theorem and_lt (u : Int) : 0 ≤ bitI .and .u64 u 15 ∧ bitI .and .u64 u 15 < 16 := by
  unfold bitI
  simp only
  rw [IntKind.wrap_u64]
  have h := Nat.and_le_right (n := (BitVec.ofInt IntKind.u64.bits u).toNat) (m := (BitVec.ofInt IntKind.u64.bits 15).toNat)
  have h15 : (BitVec.ofInt IntKind.u64.bits 15).toNat = 15 := by decide
  rw [h15] at h
  have e : (BitVec.ofInt IntKind.u64.bits u &&& BitVec.ofInt IntKind.u64.bits 15).toNat = (BitVec.ofInt IntKind.u64.bits u).toNat &&& 15 := by rw [BitVec.toNat_and, h15]
  rw [e]
  omega
/-- The digits that are laid from a place on. -/
structure Laid (arr : List UInt8) (k : Nat) : Prop where
  len : arr.length = 65
  hex : ∀ j, 65 - k ≤ j → j < 65 → ∃ b, arr[j]? = some b ∧ hexB b = true
theorem Laid.set {arr : List UInt8} {k : Nat} {e : UInt8} (h : Laid arr k) (hk : k ≤ 64) (he : hexB e = true) : Laid (arr.set (64 - k) e) (k + 1) := by
  refine ⟨by simp [h.len], fun j h1 h2 => ?_⟩
  have := h.len
  by_cases hj : 64 - k = j
  · exact ⟨e, by rw [List.getElem?_set, if_pos hj, if_pos (by omega)], he⟩
  · obtain ⟨b, h3, h4⟩ := h.hex j (by omega) h2
    exact ⟨b, by rw [List.getElem?_set, if_neg hj]; exact h3, h4⟩
theorem i_dec (k : Nat) (hk : k ≤ 64) : IntKind.i64.wrap (((65 - k : Nat) : Int) - 1) = ((64 - k : Nat) : Int) := by rw [wrap64 _ (by omega) (by omega)]; omega
theorem fmt_loop {f : Int × List UInt8 × Int → Option ((Int × List UInt8 × Int) ⊕ ((Int × List UInt8 × Int) ⊕ (List UInt8 × List UInt8)))}
    (hf : ∀ (u : Int) (arr : List UInt8) (i : Int), f (u, arr, i) = bif decide (16 ≤ u) then (getI dig36 (bitI .and .u64 u 15)).bind fun e => thenO (inO (IntKind.i64.wrap (i - 1)) 65) (arr[(IntKind.i64.wrap (i - 1)).toNat]?.bind fun _ => some (.inl (u / 2 ^ 4, arr.set (IntKind.i64.wrap (i - 1)).toNat e, IntKind.i64.wrap (i - 1)))) else some (.inr (.inl (u, arr, i)))) :
    ∀ (n k : Nat) (u : Int) (arr : List UInt8), k + n = 15 → 0 ≤ u → u < 16 ^ (n + 1) → Laid arr k → ∃ u' arr' k', loopC f (u, arr, ((65 - k : Nat) : Int)) = some (.inl (u', arr', ((65 - k' : Nat) : Int))) ∧ k' ≤ 15 ∧ 0 ≤ u' ∧ u' < 16 ∧ Laid arr' k' := by
  intro n
  induction n with
  | zero =>
    intro k u arr hk h0 h1 hL
    refine ⟨u, arr, k, ?_, by omega, h0, by simpa using h1, hL⟩
    rw [loopC_eq, hf, decide_eq_false (by simp at h1; omega)]
    rfl
  | succ n ih =>
    intro k u arr hk h0 h1 hL
    by_cases hu : 16 ≤ u
    · obtain ⟨e, he, hx⟩ := dig_hex _ (and_lt u).1 (and_lt u).2
      have hl := hL.len
      obtain ⟨b, hb⟩ := get_lt (show 64 - k < arr.length by omega)
      have hin : inO (((64 - k : Nat) : Int)) 65 = some () := by unfold inO; rw [if_pos (by omega)]
      have h16 : u / 2 ^ 4 < 16 ^ (n + 1) := by
        have : (2 : Int) ^ 4 = 16 := by decide
        rw [this]
        refine Int.ediv_lt_of_lt_mul (by decide) ?_
        rw [← Int.pow_succ]; exact h1
      obtain ⟨u', arr', k', h2, h3⟩ := ih (k + 1) (u / 2 ^ 4) (arr.set (64 - k) e) (by omega) (Int.ediv_nonneg h0 (by decide)) h16 (hL.set (by omega) hx)
      refine ⟨u', arr', k', ?_, h3⟩
      rw [loopC_eq, hf, decide_eq_true hu]
      simp only [cond_true, he, Option.bind_some, i_dec k (by omega), hin, thenO_some, Int.toNat_natCast, hb]
      rw [show (65 - (k + 1)) = 64 - k by omega] at h2
      exact h2
    · refine ⟨u, arr, k, ?_, by omega, h0, by omega, hL⟩
      rw [loopC_eq, hf, decide_eq_false hu]
      rfl
theorem fmt_use {F : Int × List UInt8 × Int → Option ((Int × List UInt8 × Int) ⊕ ((Int × List UInt8 × Int) ⊕ (List UInt8 × List UInt8)))} {s0 : Int × List UInt8 × Int} {K : Int × List UInt8 × Int → Option (List UInt8 × List UInt8)} {Q : List UInt8 → Prop}
    (hl : ∃ u' arr' k', loopC F s0 = some (.inl (u', arr', ((65 - k' : Nat) : Int))) ∧ k' ≤ 15 ∧ 0 ≤ u' ∧ u' < 16 ∧ Laid arr' k')
    (hK : ∀ (u' : Int) (arr' : List UInt8) (k' : Nat), k' ≤ 15 → 0 ≤ u' → u' < 16 → Laid arr' k' → ∃ x, K (u', arr', ((65 - k' : Nat) : Int)) = some x ∧ Q x.2) :
    ∃ s, ((((loopC F s0).bind (outK K)).bind fun x => some x.snd).bind fun x => some x) = some s ∧ Q s := by
  obtain ⟨u', arr', k', h1, h2, h3, h4, h5⟩ := hl
  obtain ⟨x, h6, h7⟩ := hK u' arr' k' h2 h3 h4 h5
  refine ⟨x.2, ?_, h7⟩
  rw [h1]
  simp only [Option.bind_some, outK, h6]
theorem fmt (u : Int) (h0 : 0 ≤ u) (h1 : u < 18446744073709551616) : ∃ s, m_strconv_FormatUint u 16 = some s ∧ s.length ≤ 16 ∧ ∀ b ∈ s, hexB b = true := by
  have hp : m_internal_strconv_isPowerOfTwo 16 = some true := by
    unfold m_internal_strconv_isPowerOfTwo sims_F1_0_0; dsimp only
    decide
  have ht : m_math_bits_TrailingZeros 16 = some 4 := by
    unfold m_math_bits_TrailingZeros sims_F1_0_0; dsimp only
    rfl
  have w16 : IntKind.u64.wrap 16 = 16 := by decide
  have w15 : IntKind.u64.wrap (16 - 1) = 15 := by decide
  have w4 : IntKind.u64.wrap 4 = 4 := by decide
  have hs : shO IntKind.u64 4 = some () := by decide
  unfold m_strconv_FormatUint sims_F1_3_0; dsimp only
  unfold m_internal_strconv_FormatUint sims_F1_2_0; dsimp only
  unfold m_internal_strconv_formatBits sims_F1_1_0; dsimp only
  simp only [w16, w15, hp, ht, Option.bind_some, orO_some, w4, hs, thenO_some]
  rw [show decide ((16 : Int) = 10) = false from rfl, show (decide ((16 : Int) < 2) || false || decide ((36 : Int) < 16)) = false from rfl]
  simp only [cond_false, cond_true]
  have hL : Laid (List.replicate 65 0) 0 := ⟨by simp, fun j h2 h3 => by omega⟩
  refine fmt_use (Q := fun s => s.length ≤ 16 ∧ ∀ b ∈ s, hexB b = true) (fmt_loop (fun u arr i => rfl) 15 0 u (List.replicate 65 0) rfl h0 (by simpa using h1) hL) ?_
  intro u' arr' k' h2 h3 h4 h5
  obtain ⟨e, he, hx⟩ := dig_hex u' h3 h4
  have hl := h5.len
  obtain ⟨b, hb⟩ := get_lt (show 64 - k' < arr'.length by omega)
  have hin : inO (((64 - k' : Nat) : Int)) 65 = some () := by unfold inO; rw [if_pos (by omega)]
  have hin2 : inO (((64 - k' : Nat) : Int)) (65 + 1) = some () := by unfold inO; rw [if_pos (by omega)]
  have hln : lnO (arr'.set (64 - k') e).length 65 = some () := by unfold lnO; rw [if_pos (by simp [hl])]
  have he' : getI [48, 49, 50, 51, 52, 53, 54, 55, 56, 57, 97, 98, 99, 100, 101, 102, 103, 104, 105, 106, 107, 108, 109, 110, 111, 112, 113, 114, 115, 116, 117, 118, 119, 120, 121, 122] u' = some e := he
  have hL2 := h5.set (by omega) hx
  refine ⟨([], (arr'.set (64 - k') e).drop (64 - k')), ?_, ?_, fun q hq => ?_⟩
  · simp only [he', Option.bind_some, i_dec k' (by omega), hin, hin2, thenO_some, Int.toNat_natCast, hb, hln]
  · simp [hl]; omega
  · obtain ⟨j, hj⟩ := List.getElem?_of_mem hq
    rw [List.getElem?_drop] at hj
    have hlt := (List.getElem?_eq_some_iff.1 hj).1
    rw [hL2.len] at hlt
    obtain ⟨b2, h6, h7⟩ := hL2.hex (64 - k' + j) (by omega) hlt
    rw [hj] at h6
    cases h6
    exact h7
/-! ### Digests -/
def stepH (h : Int) (e : UInt8) : Int := IntKind.u64.wrap (bitI BinOp.xor IntKind.u64 h (IntKind.u64.wrap (e.toNat : Int)) * 1099511628211)
def hashF (b : List UInt8) : Int := b.foldl stepH 14695981039346656037
theorem wrap_rng (n : Int) : 0 ≤ IntKind.u64.wrap n ∧ IntKind.u64.wrap n < 18446744073709551616 := by rw [IntKind.wrap_u64]; omega
theorem hash_rng (b : List UInt8) : 0 ≤ hashF b ∧ hashF b < 18446744073709551616 := by
  have : ∀ (l : List UInt8) (h : Int), 0 ≤ h ∧ h < 18446744073709551616 → 0 ≤ l.foldl stepH h ∧ l.foldl stepH h < 18446744073709551616 := by
    intro l
    induction l with
    | nil => intro h hh; exact hh
    | cons e l ih => intro h _; exact ih _ (wrap_rng _)
  exact this b _ (by decide)
noncomputable def dg (b : List UInt8) : List UInt8 := (m_partner_Digest b).getD []
theorem dg_eq (b : List UInt8) (hb : b.length ≤ 9223372036854775807) : m_partner_Digest b = some (dg b) ∧ (dg b).length = 16 ∧ ∀ x ∈ dg b, hexB x = true := by
  have : ∃ s, m_partner_Digest b = some s ∧ s.length = 16 ∧ ∀ x ∈ s, hexB x = true := by
    obtain ⟨s, h1, h2, h3⟩ := fmt (hashF b) (hash_rng b).1 (hash_rng b).2
    refine ⟨Lib.repeatL [48] (16 - s.length) ++ s, ?_, ?_, fun x hx => ?_⟩
    · unfold m_partner_Digest sims_G1_0_4; dsimp only
      refine bind_loop (a := .inl (hashF b, (b.length : Int))) (loop_pre b (fun i q => (hashF q, (i : Int))) (fun i e he => ?_) (by simp only [lt_dec_self, cond_false]; rfl)) ?_
      · have hi := get_le he
        simp only [lt_dec hi, cond_true, getI_nat, he, Option.bind_some, wrapN i (by omega)]
        simp only [hashF, List.foldl_append, List.foldl_cons, List.foldl_nil]
        rfl
      · have hr : m_strings_Repeat [48] (((16 - s.length : Nat)) : Int) = some (Lib.repeatL [48] (16 - s.length)) := by
          unfold m_strings_Repeat
          rw [if_pos ⟨by omega, by omega, by decide⟩, Int.toNat_natCast]
        simp only [outK, h1, Option.bind_some]
        rw [wrap64 _ (by omega) (by omega), show (16 : Int) - (s.length : Int) = ((16 - s.length : Nat) : Int) by omega, hr]
        simp only [Option.bind_some]
        rw [thenO_some (strO_some.2 (by rw [Lib.repeatL_length]; simp; omega))]
    · rw [List.length_append, Lib.repeatL_length]; simp; omega
    · rcases List.mem_append.1 hx with hx | hx
      · have := Lib.repeatL_replicate 48 1 (16 - s.length)
        simp only [List.replicate_succ, List.replicate_zero] at this
        rw [this] at hx
        rw [(List.mem_replicate.1 hx).2]; decide
      · exact h3 x hx
  obtain ⟨s, h1, h2⟩ := this
  unfold dg
  rw [h1]
  exact ⟨rfl, h2⟩
end Go.Proofs.YtdkncdkdbddgoaaGreatDoor
