/-
  Texts of mine, one behind the other (SYShelf, SYLibT, SYLibS, SYShelfI, SYLibI, SYShelfV, SYLibV, SYG1, SYG5, SYGN).
-/
import Derived.Ground.NamesProg
import Derived.Shelf.Strings.SlTrimAscii
import Derived.Shelf.Small.Strs
import Derived.Test.YtcbdpjgejbcpgaaGreatDoorProg
import Derived.Test.YtcbdpjgejbcpgaaGreatDoorSYEngY
import Derived.KernelRfl
import Derived.Shelf.Strconv.Itoa3
import Derived.Shelf.Small.Wraps
import Derived.Shelf.Strconv.Atoi
import Derived.Test.YtcbdpjgejbcpgaaGreatDoorSYEngZz
/-
  DERIVED: THE SHELF's CONTRACTS AT THIS DUMP, IN PLAIN WORDS (tools/lay-plain.mjs out of 'YtcbdpjgejbcpgaaGreatDoorShelf.lean', which tools/lay-shelf.mjs wrote): THE SAME DECLARATIONS UNDER THE SAME NAMES: 'import', 'namespace', 'open', 'def', 'theorem' AND NOTHING ELSE: no command of the shelf's: FOR A HAND-IN. Each laying: the table of numbers ('.._ren') and one theorem, a field a fact of the dump's own or the kernel's comparison; each contract: ONE APPLICATION.
-/
namespace Go.Proofs
open Go.Shelf
def Tryz.lays160_ren : Go.Shelf.Ren := ⟨fun | 160 => 54 | 232 => 77 | 231 => 76 | 227 => 78 | 234 => 80 | 233 => 79 | 236 => 82 | 235 => 81 | 228 => 100 | 271 => 103 | 151 => 102 | 197 => 101 | 120 => 118 | 152 => 117 | 260 => 116 | 137 => 49 | 119 => 127 | 224 => 128 | 225 => 129 | 217 => 72 | 266 => 96 | n => n, fun | 9 => 9 | 4 => 4 | 3 => 3 | 5 => 5 | 117 => 132 | 116 => 131 | 0 => 0 | 124 => 135 | 21 => 21 | 105 => 148 | 46 => 172 | 119 => 180 | 139 => 183 | 138 => 182 | n => n, fun | 3 => 4 | 4 => 5 | n => n⟩
theorem Tryz.lays160 : Go.Proofs.Lays.n160 Tryz.prog Tryz.lays160_ren := {
  mixed := by kernel_rfl
  f119 := Tryz.func127.trans (congrArg some (by kernel_rfl))
  f120 := Tryz.func118.trans (congrArg some (by kernel_rfl))
  f137 := Tryz.func49.trans (congrArg some (by kernel_rfl))
  f151 := Tryz.func102.trans (congrArg some (by kernel_rfl))
  f152 := Tryz.func117.trans (congrArg some (by kernel_rfl))
  f160 := Tryz.func54.trans (congrArg some (by kernel_rfl))
  f197 := Tryz.func101.trans (congrArg some (by kernel_rfl))
  f217 := Tryz.func72.trans (congrArg some (by kernel_rfl))
  f224 := Tryz.func128.trans (congrArg some (by kernel_rfl))
  f225 := Tryz.func129.trans (congrArg some (by kernel_rfl))
  f227 := Tryz.func78.trans (congrArg some (by kernel_rfl))
  f228 := Tryz.func100.trans (congrArg some (by kernel_rfl))
  f231 := Tryz.func76.trans (congrArg some (by kernel_rfl))
  f232 := Tryz.func77.trans (congrArg some (by kernel_rfl))
  f233 := Tryz.func79.trans (congrArg some (by kernel_rfl))
  f234 := Tryz.func80.trans (congrArg some (by kernel_rfl))
  f235 := Tryz.func81.trans (congrArg some (by kernel_rfl))
  f236 := Tryz.func82.trans (congrArg some (by kernel_rfl))
  f260 := Tryz.func116.trans (congrArg some (by kernel_rfl))
  f266 := Tryz.func96.trans (congrArg some (by kernel_rfl))
  f271 := Tryz.func103.trans (congrArg some (by kernel_rfl))
  t0 := Tryz.underlying0
  a0 := Tryz.isAgg0
  z0 := Tryz.sizeOf0
  v0 := Tryz.zeroValue0
  t3 := Tryz.underlying3
  a3 := Tryz.isAgg3
  z3 := Tryz.sizeOf3
  v3 := Tryz.zeroValue3
  t4 := Tryz.underlying4
  a4 := Tryz.isAgg4
  z4 := Tryz.sizeOf4
  v4 := Tryz.zeroValue4
  t5 := Tryz.underlying5
  a5 := Tryz.isAgg5
  z5 := Tryz.sizeOf5
  v5 := Tryz.zeroValue5
  t9 := Tryz.underlying9
  a9 := Tryz.isAgg9
  z9 := Tryz.sizeOf9
  v9 := Tryz.zeroValue9
  t21 := Tryz.underlying21
  a21 := Tryz.isAgg21
  z21 := Tryz.sizeOf21
  v21 := Tryz.zeroValue21
  t46 := Tryz.underlying172
  a46 := Tryz.isAgg172
  z46 := Tryz.sizeOf172
  v46 := Tryz.zeroValue172
  t105 := Tryz.underlying148
  a105 := Tryz.isAgg148
  z105 := Tryz.sizeOf148
  v105 := Tryz.zeroValue148
  t116 := Tryz.underlying131
  a116 := Tryz.isAgg131
  z116 := Tryz.sizeOf131
  t117 := Tryz.underlying132
  a117 := Tryz.isAgg132
  z117 := Tryz.sizeOf132
  v117 := Tryz.zeroValue132
  t119 := Tryz.underlying180
  a119 := Tryz.isAgg180
  z119 := Tryz.sizeOf180
  t124 := Tryz.underlying135
  a124 := Tryz.isAgg135
  z124 := Tryz.sizeOf135
  v124 := Tryz.zeroValue135
  t138 := Tryz.underlying182
  a138 := Tryz.isAgg182
  z138 := Tryz.sizeOf182
  v138 := Tryz.zeroValue182
  t139 := Tryz.underlying183
  a139 := Tryz.isAgg183
  z139 := Tryz.sizeOf183
  v139 := Tryz.zeroValue183
  g3 := by kernel_rfl
  g4 := by kernel_rfl }
def Tryz.lays137_ren : Go.Shelf.Ren := ⟨fun | 137 => 49 | 217 => 72 | 266 => 96 | n => n, fun | 9 => 9 | 5 => 5 | 3 => 3 | n => n, fun | n => n⟩
theorem Tryz.lays137 : Go.Proofs.Lays.n137 Tryz.prog Tryz.lays137_ren := {
  mixed := by kernel_rfl
  f137 := Tryz.func49.trans (congrArg some (by kernel_rfl))
  f217 := Tryz.func72.trans (congrArg some (by kernel_rfl))
  f266 := Tryz.func96.trans (congrArg some (by kernel_rfl))
  t3 := Tryz.underlying3
  a3 := Tryz.isAgg3
  z3 := Tryz.sizeOf3
  v3 := Tryz.zeroValue3
  t5 := Tryz.underlying5
  a5 := Tryz.isAgg5
  z5 := Tryz.sizeOf5
  v5 := Tryz.zeroValue5
  t9 := Tryz.underlying9
  a9 := Tryz.isAgg9
  z9 := Tryz.sizeOf9
  v9 := Tryz.zeroValue9 }
end Go.Proofs

/-
  strings.Trim at a set of ASCII bytes.
-/
namespace Go.Proofs.YtcbdpjgejbcpgaaGreatDoor
set_option linter.unusedSimpArgs false
set_option linter.unusedVariables false
open Go.RowKit Go.Shelf

def m_strings_Trim (s cs : List UInt8) : Option (List UInt8) := if s.length ≤ 9223372036854775807 ∧ cs.length < 4294967281 ∧ cs.all (fun b => decide (b.toNat < 128)) = true then some (Lib.trimS s cs) else none
theorem spec_strings_Trim (s cs : List UInt8) : ∀ r, m_strings_Trim s cs = some r → PureSpec Tryz.prog 54 [.str s, .str cs] (.str r) := by
  intro r hr
  unfold m_strings_Trim at hr
  split at hr
  · rename_i h
    obtain ⟨h1, h2, h3⟩ := h
    cases hr
    refine ⟨by kernel_rfl, fun w M vs hM hv _ => ?_⟩
    simp only [RepL, Rep] at hv
    obtain ⟨u, us, rfl, rfl, u', us', rfl, rfl, rfl⟩ := hv
    have hcon := Any.strings_Trim_laid Tryz.lays160 (by kernel_rfl) ⟨s.toArray⟩ ⟨cs.toArray⟩ w (by simpa [ByteArray.size] using h1) (by simpa [ByteArray.size] using h2) (ascii_of_all (by simpa using h3))
    refine Calls.mono hcon ?_
    rintro e w' ⟨rfl, hB⟩
    exact ⟨_, rfl, by simp [Rep], hB⟩
  · cases hr
end Go.Proofs.YtcbdpjgejbcpgaaGreatDoor

/-
  strings.IndexByte and strings.ContainsAny (of ASCII).
-/
namespace Go.Proofs.YtcbdpjgejbcpgaaGreatDoor
set_option linter.unusedSimpArgs false
set_option linter.unusedVariables false
open Go.RowKit Go.Shelf

def m_strings_IndexByte (s : List UInt8) (c : UInt8) : Option Int := some (Lib.indexByte s c)
theorem spec_strings_IndexByte (s : List UInt8) (c : UInt8) : ∀ r, m_strings_IndexByte s c = some r → PureSpec Tryz.prog 49 [.str s, .int .u8 c.toNat] (.int .i64 r) := by
  intro r hr
  cases hr
  refine ⟨by kernel_rfl, fun w M vs hM hv _ => ?_⟩
  simp only [RepL, Rep] at hv
  obtain ⟨u, us, rfl, rfl, u', us', rfl, rfl, rfl⟩ := hv
  have hcon := Any.strings_IndexByte Tryz.lays137 ⟨s.toArray⟩ (c.toNat : Int) w
  refine Calls.mono hcon ?_
  rintro e w' ⟨rfl, rfl⟩
  refine ⟨_, rfl, ?_, Below.refl _ _⟩
  simp only [Rep]
  have : ((c.toNat : Int)).toNat.toUInt8 = c := by simp
  rw [this]
end Go.Proofs.YtcbdpjgejbcpgaaGreatDoor

/-
  DERIVED: THE SHELF's CONTRACTS AT THIS DUMP, IN PLAIN WORDS (tools/lay-plain.mjs out of 'YtcbdpjgejbcpgaaGreatDoorShelfI.lean', which tools/lay-shelf.mjs wrote): THE SAME DECLARATIONS UNDER THE SAME NAMES: 'import', 'namespace', 'open', 'def', 'theorem' AND NOTHING ELSE: no command of the shelf's: FOR A HAND-IN. Each laying: the table of numbers ('.._ren') and one theorem, a field a fact of the dump's own or the kernel's comparison; each contract: ONE APPLICATION.
-/
namespace Go.Proofs
open Go.Shelf
def Tryz.lays171_ren : Go.Shelf.Ren := ⟨fun | 171 => 47 | 243 => 70 | 246 => 95 | 283 => 107 | 284 => 108 | 285 => 109 | 286 => 110 | 129 => 120 | 317 => 119 | 318 => 121 | 319 => 122 | 320 => 123 | 337 => 130 | 338 => 131 | n => n, fun | 3 => 3 | 9 => 9 | 2 => 2 | 4 => 4 | 171 => 153 | 0 => 0 | 53 => 154 | 37 => 157 | 5 => 5 | 173 => 158 | 212 => 169 | 51 => 170 | 20 => 20 | 213 => 171 | 46 => 172 | 232 => 192 | 233 => 193 | n => n, fun | 17 => 1 | 18 => 6 | 19 => 7 | n => n⟩
theorem Tryz.lays171 : Go.Proofs.LaysM.n171 Tryz.prog Tryz.lays171_ren := {
  mixed := by kernel_rfl
  f129 := Tryz.func120.trans (congrArg some (by kernel_rfl))
  f171 := Tryz.func47.trans (congrArg some (by kernel_rfl))
  f243 := Tryz.func70.trans (congrArg some (by kernel_rfl))
  f246 := Tryz.func95.trans (congrArg some (by kernel_rfl))
  f283 := Tryz.func107.trans (congrArg some (by kernel_rfl))
  f284 := Tryz.func108.trans (congrArg some (by kernel_rfl))
  f285 := Tryz.func109.trans (congrArg some (by kernel_rfl))
  f286 := Tryz.func110.trans (congrArg some (by kernel_rfl))
  f317 := Tryz.func119.trans (congrArg some (by kernel_rfl))
  f318 := Tryz.func121.trans (congrArg some (by kernel_rfl))
  f319 := Tryz.func122.trans (congrArg some (by kernel_rfl))
  f320 := Tryz.func123.trans (congrArg some (by kernel_rfl))
  f337 := Tryz.func130.trans (congrArg some (by kernel_rfl))
  f338 := Tryz.func131.trans (congrArg some (by kernel_rfl))
  t0 := Tryz.underlying0
  a0 := Tryz.isAgg0
  z0 := Tryz.sizeOf0
  v0 := Tryz.zeroValue0
  t2 := Tryz.underlying2
  a2 := Tryz.isAgg2
  z2 := Tryz.sizeOf2
  v2 := Tryz.zeroValue2
  t3 := Tryz.underlying3
  a3 := Tryz.isAgg3
  z3 := Tryz.sizeOf3
  v3 := Tryz.zeroValue3
  t4 := Tryz.underlying4
  a4 := Tryz.isAgg4
  z4 := Tryz.sizeOf4
  v4 := Tryz.zeroValue4
  t5 := Tryz.underlying5
  a5 := Tryz.isAgg5
  z5 := Tryz.sizeOf5
  v5 := Tryz.zeroValue5
  t9 := Tryz.underlying9
  a9 := Tryz.isAgg9
  z9 := Tryz.sizeOf9
  v9 := Tryz.zeroValue9
  t20 := Tryz.underlying20
  a20 := Tryz.isAgg20
  z20 := Tryz.sizeOf20
  v20 := Tryz.zeroValue20
  t37 := Tryz.underlying157
  a37 := Tryz.isAgg157
  z37 := Tryz.sizeOf157
  v37 := Tryz.zeroValue157
  t46 := Tryz.underlying172
  a46 := Tryz.isAgg172
  z46 := Tryz.sizeOf172
  v46 := Tryz.zeroValue172
  t51 := Tryz.underlying170
  a51 := Tryz.isAgg170
  z51 := Tryz.sizeOf170
  v51 := Tryz.zeroValue170
  t53 := Tryz.underlying154
  a53 := Tryz.isAgg154
  z53 := Tryz.sizeOf154
  v53 := Tryz.zeroValue154
  t171 := Tryz.underlying153
  a171 := Tryz.isAgg153
  z171 := Tryz.sizeOf153
  v171 := Tryz.zeroValue153
  t173 := Tryz.underlying158
  a173 := Tryz.isAgg158
  z173 := Tryz.sizeOf158
  v173 := Tryz.zeroValue158
  t212 := Tryz.underlying169
  a212 := Tryz.isAgg169
  z212 := Tryz.sizeOf169
  v212 := Tryz.zeroValue169
  t213 := Tryz.underlying171
  a213 := Tryz.isAgg171
  z213 := Tryz.sizeOf171
  t232 := Tryz.underlying192
  a232 := Tryz.isAgg192
  z232 := Tryz.sizeOf192
  v232 := Tryz.zeroValue192
  t233 := Tryz.underlying193
  a233 := Tryz.isAgg193
  z233 := Tryz.sizeOf193
  v233 := Tryz.zeroValue193
  g17 := by kernel_rfl
  g18 := by kernel_rfl
  g19 := by kernel_rfl
  i0 := by kernel_rfl
  i2 := by kernel_rfl
  i3 := by kernel_rfl
  i4 := by kernel_rfl
  i5 := by kernel_rfl
  i9 := by kernel_rfl
  i20 := by kernel_rfl
  i37 := by kernel_rfl
  i46 := by kernel_rfl
  i51 := by kernel_rfl
  i53 := by kernel_rfl
  i171 := by kernel_rfl
  i173 := by kernel_rfl
  i212 := by kernel_rfl
  i232 := by kernel_rfl
  i233 := by kernel_rfl
  m17 := by kernel_rfl
  m18 := by kernel_rfl
  m19 := by kernel_rfl }
end Go.Proofs

/-
  strconv.Itoa, over the table of the powers of ten.
-/
namespace Go.Proofs.YtcbdpjgejbcpgaaGreatDoor
set_option linter.unusedSimpArgs false
set_option linter.unusedVariables false
open Go.RowKit Go.Shelf

theorem below_grow (w : World) (k : Nat) (os : Array Obj) : Below w.heap.size w (Go.Sort.grow (w.drewN k) os) := by
  refine ⟨rfl, rfl, rfl, ?_, fun i hi => ?_⟩
  · show w.heap.size ≤ (w.heap ++ os).size
    rw [Array.size_append]; omega
  · show (w.heap ++ os)[i]? = w.heap[i]?
    rw [Array.getElem?_append_left hi]
theorem tab_pow10 {w : World} (h : Good w) : Lib.TabIs Tryz.prog w "internal/strconv.uint64pow10" .u64 Lib.pow10Tab := by
  obtain ⟨u, f, hc⟩ := h (1, .u64, Lib.pow10Tab) (by unfold tabs; exact List.mem_of_getElem? (i := 0) rfl) |>.at (by unfold Lib.pow10Tab; simp)
  unfold Lib.TabIs World.var?
  rw [show Tryz.prog.globalNamed "internal/strconv.uint64pow10" = some 1 by kernel_rfl]
  simp only [Option.bind_some]
  rw [hc]
def m_strconv_Itoa (n : Int) : Option (List UInt8) := if -9223372036854775808 ≤ n ∧ n ≤ 9223372036854775807 then some (Lib.itoa n) else none
theorem spec_strconv_Itoa (n : Int) : ∀ r, m_strconv_Itoa n = some r → PureSpec Tryz.prog 47 [.int .i64 n] (.str r) := by
  intro r hr
  unfold m_strconv_Itoa at hr
  split at hr
  · rename_i h
    cases hr
    refine ⟨by kernel_rfl, fun w M vs hM hv hgood => ?_⟩
    simp only [RepL, Rep] at hv
    obtain ⟨u, us, rfl, rfl, rfl⟩ := hv
    refine Calls.mono (Any.strconv_Itoa Tryz.lays171 n h.1 h.2 w (tab_pow10 hgood)) ?_
    rintro e w' ⟨rfl, k, os, rfl⟩
    exact ⟨_, rfl, by simp [Rep], below_grow w k os⟩
  · cases hr
end Go.Proofs.YtcbdpjgejbcpgaaGreatDoor

/-
  DERIVED: THE SHELF's CONTRACTS AT THIS DUMP, IN PLAIN WORDS (tools/lay-plain.mjs out of 'YtcbdpjgejbcpgaaGreatDoorShelfV.lean', which tools/lay-shelf.mjs wrote): THE SAME DECLARATIONS UNDER THE SAME NAMES: 'import', 'namespace', 'open', 'def', 'theorem' AND NOTHING ELSE: no command of the shelf's: FOR A HAND-IN. Each laying: the table of numbers ('.._ren') and one theorem, a field a fact of the dump's own or the kernel's comparison; each contract: ONE APPLICATION.
-/
namespace Go.Proofs
open Go.Shelf
def Tryz.lays172_ren : Go.Shelf.Ren := ⟨fun | 172 => 75 | 244 => 98 | 245 => 99 | 247 => 111 | 279 => 112 | 280 => 113 | 281 => 114 | 282 => 115 | 287 => 124 | 316 => 125 | 171 => 47 | 205 => 126 | 321 => 132 | 322 => 133 | 243 => 70 | 246 => 95 | 283 => 107 | 284 => 108 | 285 => 109 | 286 => 110 | 129 => 120 | 317 => 119 | 318 => 121 | 319 => 122 | 320 => 123 | 337 => 130 | 338 => 131 | n => n, fun | 9 => 9 | 3 => 3 | 75 => 125 | 76 => 126 | 4 => 4 | 5 => 5 | 167 => 160 | 37 => 157 | 0 => 0 | 85 => 161 | 2 => 2 | 168 => 163 | 53 => 154 | 175 => 174 | 46 => 172 | 210 => 178 | 127 => 188 | 145 => 191 | 143 => 189 | 21 => 21 | 171 => 153 | 173 => 158 | 212 => 169 | 51 => 170 | 20 => 20 | 213 => 171 | 232 => 192 | 233 => 193 | 80 => 194 | n => n, fun | 15 => 2 | 16 => 3 | 17 => 1 | 18 => 6 | 19 => 7 | n => n⟩
theorem Tryz.lays172 : Go.Proofs.Lays.n172 Tryz.prog Tryz.lays172_ren := {
  mixed := by kernel_rfl
  f129 := Tryz.func120.trans (congrArg some (by kernel_rfl))
  f171 := Tryz.func47.trans (congrArg some (by kernel_rfl))
  f172 := Tryz.func75.trans (congrArg some (by kernel_rfl))
  f205 := Tryz.func126.trans (congrArg some (by kernel_rfl))
  f243 := Tryz.func70.trans (congrArg some (by kernel_rfl))
  f244 := Tryz.func98.trans (congrArg some (by kernel_rfl))
  f245 := Tryz.func99.trans (congrArg some (by kernel_rfl))
  f246 := Tryz.func95.trans (congrArg some (by kernel_rfl))
  f247 := Tryz.func111.trans (congrArg some (by kernel_rfl))
  f279 := Tryz.func112.trans (congrArg some (by kernel_rfl))
  f280 := Tryz.func113.trans (congrArg some (by kernel_rfl))
  f281 := Tryz.func114.trans (congrArg some (by kernel_rfl))
  f282 := Tryz.func115.trans (congrArg some (by kernel_rfl))
  f283 := Tryz.func107.trans (congrArg some (by kernel_rfl))
  f284 := Tryz.func108.trans (congrArg some (by kernel_rfl))
  f285 := Tryz.func109.trans (congrArg some (by kernel_rfl))
  f286 := Tryz.func110.trans (congrArg some (by kernel_rfl))
  f287 := Tryz.func124.trans (congrArg some (by kernel_rfl))
  f316 := Tryz.func125.trans (congrArg some (by kernel_rfl))
  f317 := Tryz.func119.trans (congrArg some (by kernel_rfl))
  f318 := Tryz.func121.trans (congrArg some (by kernel_rfl))
  f319 := Tryz.func122.trans (congrArg some (by kernel_rfl))
  f320 := Tryz.func123.trans (congrArg some (by kernel_rfl))
  f321 := Tryz.func132.trans (congrArg some (by kernel_rfl))
  f322 := Tryz.func133.trans (congrArg some (by kernel_rfl))
  f337 := Tryz.func130.trans (congrArg some (by kernel_rfl))
  f338 := Tryz.func131.trans (congrArg some (by kernel_rfl))
  t0 := Tryz.underlying0
  a0 := Tryz.isAgg0
  z0 := Tryz.sizeOf0
  v0 := Tryz.zeroValue0
  t2 := Tryz.underlying2
  a2 := Tryz.isAgg2
  z2 := Tryz.sizeOf2
  v2 := Tryz.zeroValue2
  t3 := Tryz.underlying3
  a3 := Tryz.isAgg3
  z3 := Tryz.sizeOf3
  v3 := Tryz.zeroValue3
  t4 := Tryz.underlying4
  a4 := Tryz.isAgg4
  z4 := Tryz.sizeOf4
  v4 := Tryz.zeroValue4
  t5 := Tryz.underlying5
  a5 := Tryz.isAgg5
  z5 := Tryz.sizeOf5
  v5 := Tryz.zeroValue5
  t9 := Tryz.underlying9
  a9 := Tryz.isAgg9
  z9 := Tryz.sizeOf9
  v9 := Tryz.zeroValue9
  t20 := Tryz.underlying20
  a20 := Tryz.isAgg20
  z20 := Tryz.sizeOf20
  v20 := Tryz.zeroValue20
  t21 := Tryz.underlying21
  a21 := Tryz.isAgg21
  z21 := Tryz.sizeOf21
  v21 := Tryz.zeroValue21
  t37 := Tryz.underlying157
  a37 := Tryz.isAgg157
  z37 := Tryz.sizeOf157
  v37 := Tryz.zeroValue157
  t46 := Tryz.underlying172
  a46 := Tryz.isAgg172
  z46 := Tryz.sizeOf172
  v46 := Tryz.zeroValue172
  t51 := Tryz.underlying170
  a51 := Tryz.isAgg170
  z51 := Tryz.sizeOf170
  v51 := Tryz.zeroValue170
  t53 := Tryz.underlying154
  a53 := Tryz.isAgg154
  z53 := Tryz.sizeOf154
  v53 := Tryz.zeroValue154
  t75 := Tryz.underlying125
  a75 := Tryz.isAgg125
  z75 := Tryz.sizeOf125
  v75 := Tryz.zeroValue125
  t76 := Tryz.underlying126
  a76 := Tryz.isAgg126
  z76 := Tryz.sizeOf126
  v76 := Tryz.zeroValue126
  t85 := Tryz.underlying161
  a85 := Tryz.isAgg161
  z85 := Tryz.sizeOf161
  v85 := Tryz.zeroValue161
  t127 := Tryz.underlying188
  a127 := Tryz.isAgg188
  z127 := Tryz.sizeOf188
  v127 := Tryz.zeroValue188
  t143 := Tryz.underlying189
  a143 := Tryz.isAgg189
  z143 := Tryz.sizeOf189
  v143 := Tryz.zeroValue189
  t145 := Tryz.underlying191
  a145 := Tryz.isAgg191
  z145 := Tryz.sizeOf191
  v145 := Tryz.zeroValue191
  t167 := Tryz.underlying160
  a167 := Tryz.isAgg160
  z167 := Tryz.sizeOf160
  v167 := Tryz.zeroValue160
  t168 := Tryz.underlying163
  a168 := Tryz.isAgg163
  z168 := Tryz.sizeOf163
  v168 := Tryz.zeroValue163
  t171 := Tryz.underlying153
  a171 := Tryz.isAgg153
  z171 := Tryz.sizeOf153
  v171 := Tryz.zeroValue153
  t173 := Tryz.underlying158
  a173 := Tryz.isAgg158
  z173 := Tryz.sizeOf158
  v173 := Tryz.zeroValue158
  t175 := Tryz.underlying174
  a175 := Tryz.isAgg174
  z175 := Tryz.sizeOf174
  v175 := Tryz.zeroValue174
  t210 := Tryz.underlying178
  a210 := Tryz.isAgg178
  z210 := Tryz.sizeOf178
  v210 := Tryz.zeroValue178
  t212 := Tryz.underlying169
  a212 := Tryz.isAgg169
  z212 := Tryz.sizeOf169
  v212 := Tryz.zeroValue169
  t213 := Tryz.underlying171
  a213 := Tryz.isAgg171
  z213 := Tryz.sizeOf171
  t232 := Tryz.underlying192
  a232 := Tryz.isAgg192
  z232 := Tryz.sizeOf192
  v232 := Tryz.zeroValue192
  t233 := Tryz.underlying193
  a233 := Tryz.isAgg193
  z233 := Tryz.sizeOf193
  v233 := Tryz.zeroValue193
  g15 := by kernel_rfl
  g16 := by kernel_rfl
  g17 := by kernel_rfl
  g18 := by kernel_rfl
  g19 := by kernel_rfl }
end Go.Proofs

/-
  strings.Split, SplitN, Cut (over the one number of the library that no row lists), CutSuffix, strconv.Atoi at numerals.
-/
namespace Go.Proofs.YtcbdpjgejbcpgaaGreatDoor
set_option linter.unusedSimpArgs false
set_option linter.unusedVariables false
open Go.RowKit Go.Shelf

/-! ### strings.SplitN -/
/-! ### strings.Cut, CutSuffix -/
/-! ### strconv.Atoi -/
noncomputable def m_strconv_Atoi (s : List UInt8) : Option Int := if s.length ≤ 18 then Lib.atoi s else none
theorem spec_strconv_Atoi (s : List UInt8) : ∀ r, m_strconv_Atoi s = some r → PureSpec Tryz.prog 75 [.str s] (.tup [.int .i64 r, .raw .nilIface]) := by
  intro r hr
  unfold m_strconv_Atoi at hr
  split at hr
  · rename_i h
    refine ⟨by kernel_rfl, fun w M vs hM hv hgood => ?_⟩
    simp only [RepL, Rep] at hv
    obtain ⟨u, us, rfl, rfl, rfl⟩ := hv
    refine Calls.mono (Any.strconv_Atoi Tryz.lays172 ⟨s.toArray⟩ r (by simpa [ByteArray.size] using h) hr w) ?_
    rintro e w' ⟨rfl, t, rfl⟩
    refine ⟨_, rfl, ?_, ⟨rfl, rfl, rfl, by rw [Lib.bytesWorld_size]; omega, fun j hj => Lib.bytesWorld_at_old w _ t j hj⟩⟩
    unfold Rep
    refine ⟨_, rfl, ?_⟩
    simp [RepL, Rep]
  · cases hr
end Go.Proofs.YtcbdpjgejbcpgaaGreatDoor

/-
  Bodies of functions and what they compute, printed by programs of mine (wip/tool/gen.py, sc.py) out of the translation; the kernel holds each against the translation.
-/
namespace Go.Proofs.YtcbdpjgejbcpgaaGreatDoor
open Go.RowKit
set_option linter.unusedSimpArgs false
set_option linter.unusedVariables false
structure Tapi_Element where
  fRepeats : List (List (List UInt8))
  deriving DecidableEq
def rTapi_Element (x : Tapi_Element) : List DV := [.slice (List.map (rowL rowS) x.fRepeats)]
attribute [push_cast] rTapi_Element
theorem fT_Tapi_Element {d0 : DV} {v0 : List (List (List UInt8))} (h0 : d0 = .slice (List.map (rowL rowS) v0)) : [d0] = rTapi_Element ⟨v0⟩ := by unfold rTapi_Element; simp only [h0, List.cons_append, List.nil_append, List.append_assoc, List.append_nil]
structure Tapi_Segment where
  fTag : List UInt8
  fElements : List Tapi_Element
  deriving DecidableEq
def rTapi_Segment (x : Tapi_Segment) : List DV := [.str x.fTag, .slice (List.map rTapi_Element x.fElements)]
attribute [push_cast] rTapi_Segment
theorem fT_Tapi_Segment {d0 d1 : DV} {v0 : List UInt8} {v1 : List Tapi_Element} (h0 : d0 = .str v0) (h1 : d1 = .slice (List.map rTapi_Element v1)) : [d0, d1] = rTapi_Segment ⟨v0, v1⟩ := by unfold rTapi_Segment; simp only [h0, h1, List.cons_append, List.nil_append, List.append_assoc, List.append_nil]
theorem cT_Tapi_Segment {d0 d1 : SV} {v0 : List UInt8} {v1 : List Tapi_Element} (h0 : svle d0 (.d (.str v0))) (h1 : svle d1 (.d (.slice (List.map rTapi_Element v1)))) : cellsle [d0, d1] (dR (rTapi_Segment ⟨v0, v1⟩)) := by have h := (cellsle.append (cellsle.consS h0 cellsle.nil) (cellsle.consS h1 cellsle.nil)); simpa only [rTapi_Segment, dR, List.map_append, List.map_cons, List.map_nil, List.cons_append, List.nil_append, List.append_assoc, List.append_nil] using h
/-- interchange/kit.IsTagPart -/
def sc_kit_IsTagPart : SC :=
  (.seq (.reg [.r 2 (.mv (.c (.d (.bool false))))])
  (.seq (.reg [.r 3 (.mv (.t 0)),
     .c 4 (.f 54) [.t 3, .c (.d (.str [65, 66, 67, 68, 69, 70, 71, 72, 73, 74, 75, 76, 77, 78, 79, 80, 81, 82, 83, 84, 85, 86, 87, 88, 89, 90, 48, 49, 50, 51, 52, 53, 54, 55, 56, 57]))],
     .r 5 (.bin .eql (.t 4) (.c (.d (.str [])))),
     .r 2 (.mv (.t 5))])
  .ret))
theorem fit_kit_IsTagPart : fits Tryz.prog 50 Tryz.f50 sc_kit_IsTagPart [.t 2] 1 = true := by kernel_rfl

def sc_kit_InBytes_L1 : SC :=
  (.seq (.reg [.r 11 (.bin .lss (.t 10) (.t 9))])
  (.seq (.cond (.t 11)
    .skip
    (.exit 0))
  (.seq (.block 1 (.seq (.reg [.r 12 (.mv (.t 10)),
       .r 7 (.mv (.t 12))])
    (.seq (.reg (.r 13 (.mv (.t 0)) :: .r 14 (.mv (.t 7)) :: .r 15 (.sidx (.t 13) (.t 14)) :: .r 16 (.mv (.t 1)) :: .r 17 (.bin .lss (.t 15) (.t 16)) :: .r 18 (.mv (.t 17)) :: gapp [19, 20, 21, 22, 23] 18 false (.r 19 (.mv (.t 0)) :: .r 20 (.mv (.t 7)) :: .r 21 (.sidx (.t 19) (.t 20)) :: .r 22 (.mv (.t 2)) :: .r 23 (.bin .gtr (.t 21) (.t 22)) :: []) (.r 24 (.pick (.t 18) (.c (.d (.bool true))) (.t 23)) :: [])))
    (.cond (.t 24)
      (.seq (.reg [.r 6 (.mv (.c (.d (.bool false))))])
      .ret)
      .skip))))
  (.reg [.r 25 (.bin .add (.t 10) (.c (.d (.int .i64 1)))),
     .r 10 (.mv (.t 25))]))))
def sc_kit_InBytes_B1 : SC := .block 0 (.loop sc_kit_InBytes_L1)
/-- interchange/kit.InBytes -/
def sc_kit_InBytes : SC :=
  (.seq (.reg [.r 6 (.mv (.c (.d (.bool false))))])
  (.seq (.seq (.reg [.r 8 (.mv (.t 0)),
     .r 9 (.lenT (.t 8)),
     .r 10 (.mv (.c (.d (.int .i64 0))))])
  sc_kit_InBytes_B1)
  (.seq (.reg [.r 6 (.mv (.c (.d (.bool true))))])
  .ret)))
theorem fit_kit_InBytes : fits Tryz.prog 97 Tryz.f97 sc_kit_InBytes [.t 6] 3 = true := by kernel_rfl

def sc_interchangeref2_beginsTag_L1 : SC :=
  (.seq (.seq (.reg [.r 5 (.mv (.t 3)),
     .r 6 (.mv (.t 0)),
     .r 7 (.lenT (.t 6)),
     .r 8 (.bin .lss (.t 5) (.t 7))])
  (.cond (.t 8)
    .skip
    (.exit 0)))
  (.seq (.block 1 (.seq (.reg (.r 11 (.mv (.t 0)) :: .r 12 (.mv (.t 3)) :: .r 13 (.sidx (.t 11) (.t 12)) :: .r 14 (.bin .geq (.t 13) (.c (.d (.int .u8 65)))) :: .r 15 (.mv (.t 14)) :: gapp [16, 17, 18, 19] 15 true (.r 16 (.mv (.t 0)) :: .r 17 (.mv (.t 3)) :: .r 18 (.sidx (.t 16) (.t 17)) :: .r 19 (.bin .leq (.t 18) (.c (.d (.int .u8 90)))) :: []) (.r 20 (.pick (.t 15) (.t 19) (.c (.d (.bool false)))) :: .r 4 (.mv (.t 20)) :: [])))
    (.seq (.reg (.r 21 (.mv (.t 4)) :: .r 22 (.not (.t 21)) :: .r 23 (.mv (.t 22)) :: gapp [24, 25, 26, 27, 28, 29, 30, 31, 32, 33, 34, 35, 36, 37] 23 true (.r 24 (.mv (.t 3)) :: .r 25 (.bin .eql (.t 24) (.c (.d (.int .i64 0)))) :: .r 26 (.mv (.t 25)) :: gapp [27, 28, 29, 30] 26 false (.r 27 (.mv (.t 0)) :: .r 28 (.mv (.t 3)) :: .r 29 (.sidx (.t 27) (.t 28)) :: .r 30 (.bin .lss (.t 29) (.c (.d (.int .u8 48)))) :: []) (.r 31 (.pick (.t 26) (.c (.d (.bool true))) (.t 30)) :: .r 32 (.mv (.t 31)) :: gapp [33, 34, 35, 36] 32 false (.r 33 (.mv (.t 0)) :: .r 34 (.mv (.t 3)) :: .r 35 (.sidx (.t 33) (.t 34)) :: .r 36 (.bin .gtr (.t 35) (.c (.d (.int .u8 57)))) :: []) (.r 37 (.pick (.t 32) (.c (.d (.bool true))) (.t 36)) :: []))) (.r 38 (.pick (.t 23) (.t 37) (.c (.d (.bool false)))) :: [])))
    (.cond (.t 38)
      (.seq (.reg [.r 2 (.mv (.c (.d (.bool false))))])
      .ret)
      .skip))))
  (.reg [.r 9 (.mv (.t 3)),
     .r 10 (.bin .add (.t 9) (.c (.d (.int .i64 1)))),
     .r 3 (.mv (.t 10))])))
def sc_interchangeref2_beginsTag_B1 : SC := .block 0 (.loop sc_interchangeref2_beginsTag_L1)
/-- interchange/interchangeref2.beginsTag -/
def sc_interchangeref2_beginsTag : SC :=
  (.seq (.reg [.r 2 (.mv (.c (.d (.bool false))))])
  (.seq (.seq (.reg [.r 3 (.mv (.c (.d (.int .i64 0))))])
  sc_interchangeref2_beginsTag_B1)
  (.seq (.reg [.r 39 (.mv (.t 0)),
     .r 40 (.lenT (.t 39)),
     .r 41 (.bin .leq (.t 40) (.c (.d (.int .i64 6)))),
     .r 2 (.mv (.t 41))])
  .ret)))
theorem fit_interchangeref2_beginsTag : fits Tryz.prog 91 Tryz.f91 sc_interchangeref2_beginsTag [.t 2] 1 = true := by kernel_rfl

def sc_interchangeref2_checkText_L1 : SC :=
  (.seq (.seq (.reg [.r 7 (.mv (.t 3)),
     .r 8 (.mv (.t 0)),
     .r 9 (.lenT (.t 8)),
     .r 10 (.bin .lss (.t 7) (.t 9))])
  (.cond (.t 10)
    .skip
    (.exit 0)))
  (.seq (.block 1 (.seq (.reg (.r 13 (.mv (.t 0)) :: .r 14 (.mv (.t 3)) :: .r 15 (.sidx (.t 13) (.t 14)) :: .r 16 (.bin .lss (.t 15) (.c (.d (.int .u8 32)))) :: .r 17 (.mv (.t 16)) :: gapp [18, 19, 20, 21] 17 false (.r 18 (.mv (.t 0)) :: .r 19 (.mv (.t 3)) :: .r 20 (.sidx (.t 18) (.t 19)) :: .r 21 (.bin .gtr (.t 20) (.c (.d (.int .u8 126)))) :: []) (.r 22 (.pick (.t 17) (.c (.d (.bool true))) (.t 21)) :: [])))
    (.cond (.t 22)
      (.seq (.reg [.r 2 (.mv (.c (.d (.int .i64 3))))])
      .ret)
      .skip)))
  (.reg [.r 11 (.mv (.t 3)),
     .r 12 (.bin .add (.t 11) (.c (.d (.int .i64 1)))),
     .r 3 (.mv (.t 12))])))
def sc_interchangeref2_checkText_B1 : SC := .block 0 (.loop sc_interchangeref2_checkText_L1)
/-- interchange/interchangeref2.checkText -/
def sc_interchangeref2_checkText : SC :=
  (.seq (.reg [.r 2 (.mv (.c (.d (.int .i64 0))))])
  (.seq (.seq (.reg [.r 4 (.mv (.t 0)),
     .r 5 (.lenT (.t 4)),
     .r 6 (.bin .gtr (.t 5) (.c (.d (.int .i64 1000))))])
  (.cond (.t 6)
    (.seq (.reg [.r 2 (.mv (.c (.d (.int .i64 2))))])
    .ret)
    .skip))
  (.seq (.seq (.reg [.r 3 (.mv (.c (.d (.int .i64 0))))])
  sc_interchangeref2_checkText_B1)
  (.seq (.reg [.r 2 (.mv (.c (.d (.int .i64 0))))])
  .ret))))
theorem fit_interchangeref2_checkText : fits Tryz.prog 92 Tryz.f92 sc_interchangeref2_checkText [.t 2] 1 = true := by kernel_rfl

set_option maxRecDepth 100000 in
set_option maxHeartbeats 40000000 in
noncomputable def sims_G1_0_0 : (∀ (x0 : List UInt8), {m : Option (Bool) // ∀ r, m = some r → PureSpec Tryz.prog 50 [.str x0] (.bool r)}) × (∀ (x0 : List UInt8) (x1 : UInt8) (x2 : UInt8), {m : Option (Bool) // ∀ r, m = some r → PureSpec Tryz.prog 97 [.str x0, .int .u8 (x1).toNat, .int .u8 (x2).toNat] (.bool r)}) × (∀ (x0 : List UInt8), {m : Option (Bool) // ∀ r, m = some r → PureSpec Tryz.prog 91 [.str x0] (.bool r)}) × (∀ (x0 : List UInt8), {m : Option (Int) // ∀ r, m = some r → PureSpec Tryz.prog 92 [.str x0] (.int .i64 r)}) := by
  refine ⟨?g0, ?g1, ?g2, ?g3⟩
  case' g0 => (intro x0; apply Subtype.mk; intro r hm; apply pure_walk Tryz.func50 fit_kit_IsTagPart; unfold sc_kit_IsTagPart)
  case' g1 => (intro x0 x1 x2; apply Subtype.mk; intro r hm; apply pure_walk Tryz.func97 fit_kit_InBytes; unfold sc_kit_InBytes)
  case' g2 => (intro x0; apply Subtype.mk; intro r hm; apply pure_walk Tryz.func91 fit_interchangeref2_beginsTag; unfold sc_interchangeref2_beginsTag)
  case' g3 => (intro x0; apply Subtype.mk; intro r hm; apply pure_walk Tryz.func92 fit_interchangeref2_checkText; unfold sc_interchangeref2_checkText)
  all_goals (repeat' (first | with_reducible refine W_seq ?_ | with_reducible refine W_reg ?_ | with_reducible refine W_block ?_ | with_reducible refine W_skip ?_ | with_reducible refine W_ret ?_ | with_reducible refine W_exit ?_ | with_reducible refine O_nil ?_ | with_reducible refine K_seq ?_ | with_reducible refine K_seqE ?_ | with_reducible refine K_seqR ?_ | with_reducible refine K_block ?_ | with_reducible refine K_blockR ?_ | ((with_reducible apply O_sidxr hm); (iterate 2 (simp only [push_cast, seval]; rfl)); intro e hm) | ((with_reducible apply O_r); (simp only [push_cast, seval]; rfl); (first | exact trivial)) | ((with_reducible apply O_and hm); (simp only [push_cast, seval]; rfl); rfl; intro v hm; rotate_left; intro v g hm) | ((with_reducible apply O_or hm); (simp only [push_cast, seval]; rfl); rfl; intro v hm; rotate_left; intro v g hm) | ((with_reducible apply O_cF hm); (simp only [push_cast, seval]; rfl); (first | apply spec_strings_Trim _ _); (any_goals ((repeat' (first | rfl)); done)); intro x hm) | ((with_reducible apply S_condB hm); (simp only [push_cast, seval]; rfl); intro hm; rotate_left; intro hm) | ((with_reducible apply K_endS hm); (focus (simp only [resOf, resL, RV.get, push_cast, seval]; rfl)); (focus ((repeat' (first | rfl)); done))) | ((with_reducible apply K_bool hm); (simp only [push_cast, seval]; rfl)) | ((with_reducible apply K_leave hm); intro r hm) | ((with_reducible apply K_leaveR hm); intro r hm) | ((apply S_loopY (b := 0) (X := sc_kit_InBytes_B1) (x := sc_kit_InBytes_L1) rfl (fun (c : SV × SV × SV × SV) (s : Int) => st [(0, c.1), (1, c.2.1), (2, c.2.2.1), (9, c.2.2.2), (10, .d (.int .i64 s))] []) (c := (_, _, _, _)) (s0 := _) hm); (focus (first | (dsimp only; done))); (with_reducible refine Then.mk ?_ ?_)) | ((apply S_loopY (b := 0) (X := sc_interchangeref2_beginsTag_B1) (x := sc_interchangeref2_beginsTag_L1) rfl (fun (c : SV) (s : Int) => st [(0, c), (3, .d (.int .i64 s))] []) (c := _) (s0 := _) hm); (focus (first | (dsimp only; done))); (with_reducible refine Then.mk ?_ ?_)) | ((apply S_loopY (b := 0) (X := sc_interchangeref2_checkText_B1) (x := sc_interchangeref2_checkText_L1) rfl (fun (c : SV) (s : Int) => st [(0, c), (3, .d (.int .i64 s))] []) (c := _) (s0 := _) hm); (focus (first | (dsimp only; done))); (with_reducible refine Then.mk ?_ ?_)) | ((apply K_next (s' := _) hm); (focus (first | (dsimp only; done)))) | ((apply K_brk (s' := _) hm); (focus (first | (dsimp only; done)))) | (((with_reducible apply K_brkR hm); intro r hm)) | (((with_reducible apply LoopB.of); (focus (first | (dsimp only; done))); (focus ((intro _; repeat' (first | with_reducible exact impC_end | with_reducible refine impC_seq ?_)))); (intro s o hm; first | unfold sc_kit_InBytes_L1 | unfold sc_interchangeref2_beginsTag_L1 | unfold sc_interchangeref2_checkText_L1); rotate_left; intro s hm)) | (((apply imp_stT; (repeat' (first | with_reducible exact keepT_nil | with_reducible exact keepC_nil | with_reducible apply keepT_cons | ((with_reducible apply svle_eq); (focus (first | (simp only [push_cast, seval]; rfl))); (focus ((repeat' (first | rfl)); done))))); done)))))
noncomputable def m_kit_IsTagPart (x0 : List UInt8) : Option (Bool) := (sims_G1_0_0.1 x0).1
theorem spec_kit_IsTagPart (x0 : List UInt8) : ∀ r, m_kit_IsTagPart x0 = some r → PureSpec Tryz.prog 50 [.str x0] (.bool r) := (sims_G1_0_0.1 x0).2
noncomputable def m_kit_InBytes (x0 : List UInt8) (x1 : UInt8) (x2 : UInt8) : Option (Bool) := (sims_G1_0_0.2.1 x0 x1 x2).1
theorem spec_kit_InBytes (x0 : List UInt8) (x1 : UInt8) (x2 : UInt8) : ∀ r, m_kit_InBytes x0 x1 x2 = some r → PureSpec Tryz.prog 97 [.str x0, .int .u8 (x1).toNat, .int .u8 (x2).toNat] (.bool r) := (sims_G1_0_0.2.1 x0 x1 x2).2
noncomputable def m_interchangeref2_beginsTag (x0 : List UInt8) : Option (Bool) := (sims_G1_0_0.2.2.1 x0).1
theorem spec_interchangeref2_beginsTag (x0 : List UInt8) : ∀ r, m_interchangeref2_beginsTag x0 = some r → PureSpec Tryz.prog 91 [.str x0] (.bool r) := (sims_G1_0_0.2.2.1 x0).2
noncomputable def m_interchangeref2_checkText (x0 : List UInt8) : Option (Int) := (sims_G1_0_0.2.2.2 x0).1
theorem spec_interchangeref2_checkText (x0 : List UInt8) : ∀ r, m_interchangeref2_checkText x0 = some r → PureSpec Tryz.prog 92 [.str x0] (.int .i64 r) := (sims_G1_0_0.2.2.2 x0).2

/-- interchange/kit.IsTag -/
def sc_kit_IsTag : SC :=
  (.seq (.reg [.r 2 (.mv (.c (.d (.bool false))))])
  (.seq (.reg (.r 3 (.mv (.t 0)) :: .r 4 (.lenT (.t 3)) :: .r 5 (.bin .geq (.t 4) (.c (.d (.int .i64 2)))) :: .r 6 (.mv (.t 5)) :: gapp [7, 8, 9] 6 true (.r 7 (.mv (.t 0)) :: .r 8 (.lenT (.t 7)) :: .r 9 (.bin .leq (.t 8) (.c (.d (.int .i64 6)))) :: []) (.r 10 (.pick (.t 6) (.t 9) (.c (.d (.bool false)))) :: .r 11 (.mv (.t 10)) :: gapp [12, 13, 14, 15] 11 true (.r 12 (.mv (.t 0)) :: .r 13 (.sidx (.t 12) (.c (.d (.int .i64 0)))) :: .c 14 (.f 49) [.c (.d (.str [65, 66, 67, 68, 69, 70, 71, 72, 73, 74, 75, 76, 77, 78, 79, 80, 81, 82, 83, 84, 85, 86, 87, 88, 89, 90])), .t 13] :: .r 15 (.bin .geq (.t 14) (.c (.d (.int .i64 0)))) :: []) (.r 16 (.pick (.t 11) (.t 15) (.c (.d (.bool false)))) :: .r 17 (.mv (.t 16)) :: gapp [18, 19] 17 true (.r 18 (.mv (.t 0)) :: .c 19 (.f 50) [.t 18] :: []) (.r 20 (.pick (.t 17) (.t 19) (.c (.d (.bool false)))) :: .r 2 (.mv (.t 20)) :: [])))))
  .ret))
theorem fit_kit_IsTag : fits Tryz.prog 21 Tryz.f21 sc_kit_IsTag [.t 2] 1 = true := by kernel_rfl

/-- interchange/kit.IsText -/
def sc_kit_IsText : SC :=
  (.seq (.reg [.r 2 (.mv (.c (.d (.bool false))))])
  (.seq (.reg (.r 3 (.mv (.t 0)) :: .r 4 (.lenT (.t 3)) :: .r 5 (.bin .leq (.t 4) (.c (.d (.int .i64 1000)))) :: .r 6 (.mv (.t 5)) :: gapp [7, 8] 6 true (.r 7 (.mv (.t 0)) :: .c 8 (.f 97) [.t 7, .c (.d (.int .u8 32)), .c (.d (.int .u8 126))] :: []) (.r 9 (.pick (.t 6) (.t 8) (.c (.d (.bool false)))) :: .r 2 (.mv (.t 9)) :: [])))
  .ret))
theorem fit_kit_IsText : fits Tryz.prog 73 Tryz.f73 sc_kit_IsText [.t 2] 1 = true := by kernel_rfl

/-- interchange/interchangeref2.IsTag -/
def sc_interchangeref2_IsTag : SC :=
  (.seq (.reg [.r 2 (.mv (.c (.d (.bool false))))])
  (.seq (.reg (.r 3 (.mv (.t 0)) :: .r 4 (.lenT (.t 3)) :: .r 5 (.bin .geq (.t 4) (.c (.d (.int .i64 2)))) :: .r 6 (.mv (.t 5)) :: gapp [7, 8] 6 true (.r 7 (.mv (.t 0)) :: .c 8 (.f 91) [.t 7] :: []) (.r 9 (.pick (.t 6) (.t 8) (.c (.d (.bool false)))) :: .r 2 (.mv (.t 9)) :: [])))
  .ret))
theorem fit_interchangeref2_IsTag : fits Tryz.prog 61 Tryz.f61 sc_interchangeref2_IsTag [.t 2] 1 = true := by kernel_rfl

def sc_interchangeref2_checkElement_L1 : SC :=
  (.seq (.seq (.reg [.r 35 (.mv (.t 4)),
     .r 36 (.fld 0 (.t 1)),
     .o 37 (.ld1 (.t 36)),
     .r 38 (.mv (.t 3)),
     .r 39 (.idx 1 (.t 37) (.t 38)),
     .o 40 (.ld1 (.t 39)),
     .r 41 (.len (.t 40)),
     .r 42 (.bin .lss (.t 35) (.t 41))])
  (.cond (.t 42)
    .skip
    (.exit 2)))
  (.seq (.block 3 (.seq (.reg [.r 45 (.fld 0 (.t 1)),
       .o 46 (.ld1 (.t 45)),
       .r 47 (.mv (.t 3)),
       .r 48 (.idx 1 (.t 46) (.t 47)),
       .o 49 (.ld1 (.t 48)),
       .r 50 (.mv (.t 4)),
       .r 51 (.idx 1 (.t 49) (.t 50)),
       .o 52 (.ld1 (.t 51)),
       .c 53 (.f 92) [.t 52],
       .r 5 (.mv (.t 53))])
    (.seq (.reg [.r 54 (.mv (.t 5)),
       .r 55 (.bin .neq (.t 54) (.c (.d (.int .i64 0))))])
    (.cond (.t 55)
      (.seq (.reg [.r 56 (.mv (.t 5)),
         .r 2 (.mv (.t 56))])
      .ret)
      .skip))))
  (.reg [.r 43 (.mv (.t 4)),
     .r 44 (.bin .add (.t 43) (.c (.d (.int .i64 1)))),
     .r 4 (.mv (.t 44))])))
def sc_interchangeref2_checkElement_B1 : SC := .block 2 (.loop sc_interchangeref2_checkElement_L1)
def sc_interchangeref2_checkElement_L2 : SC :=
  (.seq (.seq (.reg [.r 14 (.mv (.t 3)),
     .r 15 (.fld 0 (.t 1)),
     .o 16 (.ld1 (.t 15)),
     .r 17 (.len (.t 16)),
     .r 18 (.bin .lss (.t 14) (.t 17))])
  (.cond (.t 18)
    .skip
    (.exit 0)))
  (.seq (.block 1 (.seq (.seq (.reg [.r 21 (.fld 0 (.t 1)),
       .o 22 (.ld1 (.t 21)),
       .r 23 (.mv (.t 3)),
       .r 24 (.idx 1 (.t 22) (.t 23)),
       .o 25 (.ld1 (.t 24)),
       .r 26 (.len (.t 25)),
       .r 27 (.bin .eql (.t 26) (.c (.d (.int .i64 0))))])
    (.cond (.t 27)
      (.seq (.reg [.r 2 (.mv (.c (.d (.int .i64 9))))])
      .ret)
      .skip))
    (.seq (.seq (.reg [.r 28 (.fld 0 (.t 1)),
       .o 29 (.ld1 (.t 28)),
       .r 30 (.mv (.t 3)),
       .r 31 (.idx 1 (.t 29) (.t 30)),
       .o 32 (.ld1 (.t 31)),
       .r 33 (.len (.t 32)),
       .r 34 (.bin .gtr (.t 33) (.c (.d (.int .i64 20))))])
    (.cond (.t 34)
      (.seq (.reg [.r 2 (.mv (.c (.d (.int .i64 2))))])
      .ret)
      .skip))
    (.seq (.reg [.r 4 (.mv (.c (.d (.int .i64 0))))])
    sc_interchangeref2_checkElement_B1))))
  (.reg [.r 19 (.mv (.t 3)),
     .r 20 (.bin .add (.t 19) (.c (.d (.int .i64 1)))),
     .r 3 (.mv (.t 20))])))
def sc_interchangeref2_checkElement_B2 : SC := .block 0 (.loop sc_interchangeref2_checkElement_L2)
/-- interchange/interchangeref2.checkElement -/
def sc_interchangeref2_checkElement : SC :=
  (.seq (.reg [.r 1 (.boxI (.t 0)),
     .r 2 (.mv (.c (.d (.int .i64 0))))])
  (.seq (.seq (.reg [.r 6 (.fld 0 (.t 1)),
     .o 7 (.ld1 (.t 6)),
     .r 8 (.len (.t 7)),
     .r 9 (.bin .eql (.t 8) (.c (.d (.int .i64 0))))])
  (.cond (.t 9)
    (.seq (.reg [.r 2 (.mv (.c (.d (.int .i64 9))))])
    .ret)
    .skip))
  (.seq (.seq (.reg [.r 10 (.fld 0 (.t 1)),
     .o 11 (.ld1 (.t 10)),
     .r 12 (.len (.t 11)),
     .r 13 (.bin .gtr (.t 12) (.c (.d (.int .i64 20))))])
  (.cond (.t 13)
    (.seq (.reg [.r 2 (.mv (.c (.d (.int .i64 2))))])
    .ret)
    .skip))
  (.seq (.seq (.reg [.r 3 (.mv (.c (.d (.int .i64 0))))])
  sc_interchangeref2_checkElement_B2)
  (.seq (.reg [.r 2 (.mv (.c (.d (.int .i64 0))))])
  .ret)))))
theorem fit_interchangeref2_checkElement : fits Tryz.prog 62 Tryz.f62 sc_interchangeref2_checkElement [.t 2] 1 = true := by kernel_rfl

set_option maxRecDepth 100000 in
set_option maxHeartbeats 40000000 in
noncomputable def sims_G1_1_0 : (∀ (x0 : List UInt8), {m : Option (Bool) // ∀ r, m = some r → PureSpec Tryz.prog 21 [.str x0] (.bool r)}) × (∀ (x0 : List UInt8), {m : Option (Bool) // ∀ r, m = some r → PureSpec Tryz.prog 73 [.str x0] (.bool r)}) × (∀ (x0 : List UInt8), {m : Option (Bool) // ∀ r, m = some r → PureSpec Tryz.prog 61 [.str x0] (.bool r)}) × (∀ (x0 : Tapi_Element), {m : Option (Int) // ∀ r, m = some r → PureSpec Tryz.prog 62 [.agg (rTapi_Element x0)] (.int .i64 r)}) := by
  refine ⟨?g0, ?g1, ?g2, ?g3⟩
  case' g0 => (intro x0; apply Subtype.mk; intro r hm; apply pure_walk Tryz.func21 fit_kit_IsTag; unfold sc_kit_IsTag)
  case' g1 => (intro x0; apply Subtype.mk; intro r hm; apply pure_walk Tryz.func73 fit_kit_IsText; unfold sc_kit_IsText)
  case' g2 => (intro x0; apply Subtype.mk; intro r hm; apply pure_walk Tryz.func61 fit_interchangeref2_IsTag; unfold sc_interchangeref2_IsTag)
  case' g3 => (intro x0; apply Subtype.mk; intro r hm; apply pure_walk Tryz.func62 fit_interchangeref2_checkElement; unfold sc_interchangeref2_checkElement)
  all_goals (repeat' (first | with_reducible refine W_seq ?_ | with_reducible refine W_reg ?_ | with_reducible refine W_block ?_ | with_reducible refine W_skip ?_ | with_reducible refine W_ret ?_ | with_reducible refine W_exit ?_ | with_reducible refine O_nil ?_ | with_reducible refine K_seq ?_ | with_reducible refine K_seqE ?_ | with_reducible refine K_seqR ?_ | with_reducible refine K_block ?_ | with_reducible refine K_blockR ?_ | with_reducible refine O_o2r ?_ | ((with_reducible apply O_idxr hm); (iterate 2 (simp only [push_cast, seval]; rfl)); (intro _; rfl); intro e hm) | ((with_reducible apply O_sidxr hm); (iterate 2 (simp only [push_cast, seval]; rfl)); intro e hm) | ((with_reducible apply O_r); (simp only [push_cast, seval]; rfl); (first | exact trivial)) | ((with_reducible apply O_and hm); (simp only [push_cast, seval]; rfl); rfl; intro v hm; rotate_left; intro v g hm) | ((with_reducible apply O_cF hm); (simp only [push_cast, seval]; rfl); (first | apply spec_strings_IndexByte _ _ | apply spec_kit_IsTagPart _ | apply spec_kit_InBytes _ _ _ | apply spec_interchangeref2_beginsTag _ | apply spec_interchangeref2_checkText _); (any_goals ((repeat' (first | rfl | (with_reducible first | apply f_cons) | (with_reducible apply f_byte; decide))); done)); intro x hm) | ((with_reducible apply S_condB hm); (simp only [push_cast, seval]; rfl); intro hm; rotate_left; intro hm) | ((with_reducible apply K_endS hm); (focus (simp only [resOf, resL, RV.get, push_cast, seval]; rfl)); (focus ((repeat' (first | rfl)); done))) | ((with_reducible apply K_bool hm); (simp only [push_cast, seval]; rfl)) | ((with_reducible apply K_leave hm); intro r hm) | ((with_reducible apply K_leaveR hm); intro r hm) | ((apply S_loopY (b := 2) (X := sc_interchangeref2_checkElement_B1) (x := sc_interchangeref2_checkElement_L1) rfl (fun (c : SV × SV) (s : Int) => st [(1, c.1), (3, c.2), (4, .d (.int .i64 s))] []) (c := (_, _)) (s0 := _) hm); (focus (first | (dsimp only; done))); (with_reducible refine Then.mk ?_ ?_)) | ((apply S_loopY (b := 0) (X := sc_interchangeref2_checkElement_B2) (x := sc_interchangeref2_checkElement_L2) rfl (fun (c : SV) (s : Int) => st [(1, c), (3, .d (.int .i64 s))] []) (c := _) (s0 := _) hm); (focus (first | (dsimp only; done))); (with_reducible refine Then.mk ?_ ?_)) | ((apply K_next (s' := _) hm); (focus (first | (dsimp only; done)))) | ((apply K_brk (s' := _) hm); (focus (first | (dsimp only; done)))) | (((with_reducible apply K_brkR hm); intro r hm)) | (((with_reducible apply LoopB.of); (focus (first | (dsimp only; done))); (focus ((intro _; repeat' (first | with_reducible exact impC_end | with_reducible refine impC_seq ?_ | with_reducible refine impC_block ?_ | ((with_reducible refine impC_rnd ?_); intro _) | ((with_reducible refine impC_brk ?_); intro _))))); (intro s o hm; first | unfold sc_interchangeref2_checkElement_L1 | unfold sc_interchangeref2_checkElement_L2); rotate_left; intro s hm)) | (((apply imp_stT; (repeat' (first | with_reducible exact keepT_nil | with_reducible exact keepC_nil | with_reducible apply keepT_cons | ((with_reducible apply svle_eq); (focus (first | (simp only [push_cast, seval]; rfl))); (focus ((repeat' (first | rfl)); done))))); done)))))
noncomputable def m_kit_IsTag (x0 : List UInt8) : Option (Bool) := (sims_G1_1_0.1 x0).1
theorem spec_kit_IsTag (x0 : List UInt8) : ∀ r, m_kit_IsTag x0 = some r → PureSpec Tryz.prog 21 [.str x0] (.bool r) := (sims_G1_1_0.1 x0).2
noncomputable def m_kit_IsText (x0 : List UInt8) : Option (Bool) := (sims_G1_1_0.2.1 x0).1
theorem spec_kit_IsText (x0 : List UInt8) : ∀ r, m_kit_IsText x0 = some r → PureSpec Tryz.prog 73 [.str x0] (.bool r) := (sims_G1_1_0.2.1 x0).2
noncomputable def m_interchangeref2_IsTag (x0 : List UInt8) : Option (Bool) := (sims_G1_1_0.2.2.1 x0).1
theorem spec_interchangeref2_IsTag (x0 : List UInt8) : ∀ r, m_interchangeref2_IsTag x0 = some r → PureSpec Tryz.prog 61 [.str x0] (.bool r) := (sims_G1_1_0.2.2.1 x0).2
noncomputable def m_interchangeref2_checkElement (x0 : Tapi_Element) : Option (Int) := (sims_G1_1_0.2.2.2 x0).1
theorem spec_interchangeref2_checkElement (x0 : Tapi_Element) : ∀ r, m_interchangeref2_checkElement x0 = some r → PureSpec Tryz.prog 62 [.agg (rTapi_Element x0)] (.int .i64 r) := (sims_G1_1_0.2.2.2 x0).2

/-- interchange/wire.textFault -/
def sc_wire_textFault : SC :=
  (.seq (.reg [.r 2 (.mv (.c (.d (.int .i64 0))))])
  (.seq (.seq (.reg [.r 3 (.mv (.t 0)),
     .r 4 (.lenT (.t 3)),
     .r 5 (.bin .gtr (.t 4) (.c (.d (.int .i64 1000))))])
  (.cond (.t 5)
    (.seq (.reg [.r 2 (.mv (.c (.d (.int .i64 2))))])
    .ret)
    .skip))
  (.seq (.seq (.reg [.r 6 (.mv (.t 0)),
     .c 7 (.f 73) [.t 6],
     .r 8 (.not (.t 7))])
  (.cond (.t 8)
    (.seq (.reg [.r 2 (.mv (.c (.d (.int .i64 3))))])
    .ret)
    .skip))
  (.seq (.reg [.r 2 (.mv (.c (.d (.int .i64 0))))])
  .ret))))
theorem fit_wire_textFault : fits Tryz.prog 51 Tryz.f51 sc_wire_textFault [.t 2] 1 = true := by kernel_rfl

def sc_interchangeref2_CheckOne_L1 : SC :=
  (.seq (.seq (.reg [.r 13 (.mv (.t 3)),
     .r 14 (.fld 1 (.t 1)),
     .o 15 (.ld1 (.t 14)),
     .r 16 (.len (.t 15)),
     .r 17 (.bin .lss (.t 13) (.t 16))])
  (.cond (.t 17)
    .skip
    (.exit 0)))
  (.seq (.block 1 (.seq (.reg [.r 20 (.fld 1 (.t 1)),
       .o 21 (.ld1 (.t 20)),
       .r 22 (.mv (.t 3)),
       .r 23 (.idx 1 (.t 21) (.t 22)),
       .o 24 (.ldA 1 (.t 23)),
       .c 25 (.f 62) [.t 24],
       .r 4 (.mv (.t 25))])
    (.seq (.reg [.r 26 (.mv (.t 4)),
       .r 27 (.bin .neq (.t 26) (.c (.d (.int .i64 0))))])
    (.cond (.t 27)
      (.seq (.reg [.r 28 (.mv (.t 4)),
         .r 2 (.mv (.t 28))])
      .ret)
      .skip))))
  (.reg [.r 18 (.mv (.t 3)),
     .r 19 (.bin .add (.t 18) (.c (.d (.int .i64 1)))),
     .r 3 (.mv (.t 19))])))
def sc_interchangeref2_CheckOne_B1 : SC := .block 0 (.loop sc_interchangeref2_CheckOne_L1)
/-- interchange/interchangeref2.CheckOne -/
def sc_interchangeref2_CheckOne : SC :=
  (.seq (.reg [.r 1 (.boxI (.t 0)),
     .r 2 (.mv (.c (.d (.int .i64 0))))])
  (.seq (.seq (.reg [.r 5 (.fld 0 (.t 1)),
     .o 6 (.ld1 (.t 5)),
     .c 7 (.f 61) [.t 6],
     .r 8 (.not (.t 7))])
  (.cond (.t 8)
    (.seq (.reg [.r 2 (.mv (.c (.d (.int .i64 5))))])
    .ret)
    .skip))
  (.seq (.seq (.reg [.r 9 (.fld 1 (.t 1)),
     .o 10 (.ld1 (.t 9)),
     .r 11 (.len (.t 10)),
     .r 12 (.bin .gtr (.t 11) (.c (.d (.int .i64 50))))])
  (.cond (.t 12)
    (.seq (.reg [.r 2 (.mv (.c (.d (.int .i64 2))))])
    .ret)
    .skip))
  (.seq (.seq (.reg [.r 3 (.mv (.c (.d (.int .i64 0))))])
  sc_interchangeref2_CheckOne_B1)
  (.seq (.reg [.r 2 (.mv (.c (.d (.int .i64 0))))])
  .ret)))))
theorem fit_interchangeref2_CheckOne : fits Tryz.prog 32 Tryz.f32 sc_interchangeref2_CheckOne [.t 2] 1 = true := by kernel_rfl

set_option maxRecDepth 100000 in
set_option maxHeartbeats 40000000 in
noncomputable def sims_G1_2_0 : (∀ (x0 : List UInt8), {m : Option (Int) // ∀ r, m = some r → PureSpec Tryz.prog 51 [.str x0] (.int .i64 r)}) × (∀ (x0 : Tapi_Segment), {m : Option (Int) // ∀ r, m = some r → PureSpec Tryz.prog 32 [.agg (rTapi_Segment x0)] (.int .i64 r)}) := by
  refine ⟨?g0, ?g1⟩
  case' g0 => (intro x0; apply Subtype.mk; intro r hm; apply pure_walk Tryz.func51 fit_wire_textFault; unfold sc_wire_textFault)
  case' g1 => (intro x0; apply Subtype.mk; intro r hm; apply pure_walk Tryz.func32 fit_interchangeref2_CheckOne; unfold sc_interchangeref2_CheckOne)
  all_goals (repeat' (first | with_reducible refine W_seq ?_ | with_reducible refine W_reg ?_ | with_reducible refine W_block ?_ | with_reducible refine W_skip ?_ | with_reducible refine W_ret ?_ | with_reducible refine W_exit ?_ | with_reducible refine O_nil ?_ | with_reducible refine K_seq ?_ | with_reducible refine K_seqE ?_ | with_reducible refine K_seqR ?_ | with_reducible refine K_block ?_ | with_reducible refine K_blockR ?_ | with_reducible refine O_o2r ?_ | ((with_reducible apply O_idxr hm); (iterate 2 (simp only [push_cast, seval]; rfl)); (intro _; rfl); intro e hm) | ((with_reducible apply O_r); (simp only [push_cast, seval]; rfl); (first | exact trivial)) | ((with_reducible apply O_cF hm); (simp only [push_cast, seval]; rfl); (first | apply spec_kit_IsText _ | apply spec_interchangeref2_IsTag _ | apply spec_interchangeref2_checkElement _); (any_goals ((repeat' (first | rfl)); done)); intro x hm) | ((with_reducible apply S_condB hm); (simp only [push_cast, seval]; rfl); intro hm; rotate_left; intro hm) | ((with_reducible apply K_endS hm); (focus (simp only [resOf, resL, RV.get, push_cast, seval]; rfl)); (focus ((repeat' (first | rfl)); done))) | ((with_reducible apply K_leave hm); intro r hm) | ((with_reducible apply K_leaveR hm); intro r hm) | ((apply S_loopY (b := 0) (X := sc_interchangeref2_CheckOne_B1) (x := sc_interchangeref2_CheckOne_L1) rfl (fun (c : SV) (s : Int) => st [(1, c), (3, .d (.int .i64 s))] []) (c := _) (s0 := _) hm); (focus (first | (dsimp only; done))); (with_reducible refine Then.mk ?_ ?_)) | ((apply K_next (s' := _) hm); (focus (first | (dsimp only; done)))) | ((apply K_brk (s' := _) hm); (focus (first | (dsimp only; done)))) | (((with_reducible apply K_brkR hm); intro r hm)) | (((with_reducible apply LoopB.of); (focus (first | (dsimp only; done))); (focus ((intro _; repeat' (first | with_reducible exact impC_end | with_reducible refine impC_seq ?_)))); (intro s o hm; first | unfold sc_interchangeref2_CheckOne_L1); rotate_left; intro s hm)) | (((apply imp_stT; (repeat' (first | with_reducible exact keepT_nil | with_reducible exact keepC_nil | with_reducible apply keepT_cons | ((with_reducible apply svle_eq); (focus (first | (simp only [push_cast, seval]; rfl))); (focus ((repeat' (first | rfl)); done))))); done)))))
noncomputable def m_wire_textFault (x0 : List UInt8) : Option (Int) := (sims_G1_2_0.1 x0).1
theorem spec_wire_textFault (x0 : List UInt8) : ∀ r, m_wire_textFault x0 = some r → PureSpec Tryz.prog 51 [.str x0] (.int .i64 r) := (sims_G1_2_0.1 x0).2
noncomputable def m_interchangeref2_CheckOne (x0 : Tapi_Segment) : Option (Int) := (sims_G1_2_0.2 x0).1
theorem spec_interchangeref2_CheckOne (x0 : Tapi_Segment) : ∀ r, m_interchangeref2_CheckOne x0 = some r → PureSpec Tryz.prog 32 [.agg (rTapi_Segment x0)] (.int .i64 r) := (sims_G1_2_0.2 x0).2

def sc_wire_elementFault_L1 : SC :=
  (.seq (.reg [.r 32 (.bin .lss (.t 31) (.t 30))])
  (.seq (.cond (.t 32)
    .skip
    (.exit 2))
  (.seq (.block 3 (.seq (.reg [.r 33 (.idx 1 (.t 29) (.t 31)),
       .o 34 (.ld1 (.t 33)),
       .r 6 (.mv (.t 34))])
    (.seq (.reg [.r 35 (.mv (.t 6)),
       .c 36 (.f 51) [.t 35],
       .r 7 (.mv (.t 36))])
    (.seq (.reg [.r 37 (.mv (.t 7)),
       .r 38 (.bin .neq (.t 37) (.c (.d (.int .i64 0))))])
    (.cond (.t 38)
      (.seq (.reg [.r 39 (.mv (.t 7)),
         .r 2 (.mv (.t 39))])
      .ret)
      .skip)))))
  (.reg [.r 40 (.bin .add (.t 31) (.c (.d (.int .i64 1)))),
     .r 31 (.mv (.t 40))]))))
def sc_wire_elementFault_B1 : SC := .block 2 (.loop sc_wire_elementFault_L1)
def sc_wire_elementFault_L2 : SC :=
  (.seq (.reg [.r 20 (.bin .lss (.t 19) (.t 18))])
  (.seq (.cond (.t 20)
    .skip
    (.exit 0))
  (.seq (.block 1 (.seq (.reg [.r 21 (.idx 1 (.t 17) (.t 19)),
       .o 22 (.ld1 (.t 21)),
       .r 4 (.mv (.t 22))])
    (.seq (.seq (.reg [.r 23 (.mv (.t 4)),
       .r 24 (.len (.t 23)),
       .r 25 (.bin .eql (.t 24) (.c (.d (.int .i64 0))))])
    (.cond (.t 25)
      (.seq (.reg [.r 2 (.mv (.c (.d (.int .i64 9))))])
      .ret)
      .skip))
    (.seq (.seq (.reg [.r 26 (.mv (.t 4)),
       .r 27 (.len (.t 26)),
       .r 28 (.bin .gtr (.t 27) (.c (.d (.int .i64 20))))])
    (.cond (.t 28)
      (.seq (.reg [.r 2 (.mv (.c (.d (.int .i64 2))))])
      .ret)
      .skip))
    (.seq (.reg [.r 29 (.mv (.t 4)),
       .r 30 (.len (.t 29)),
       .r 31 (.mv (.c (.d (.int .i64 0))))])
    sc_wire_elementFault_B1)))))
  (.reg [.r 41 (.bin .add (.t 19) (.c (.d (.int .i64 1)))),
     .r 19 (.mv (.t 41))]))))
def sc_wire_elementFault_B2 : SC := .block 0 (.loop sc_wire_elementFault_L2)
/-- interchange/wire.elementFault -/
def sc_wire_elementFault : SC :=
  (.seq (.reg [.r 1 (.boxI (.t 0)),
     .r 2 (.mv (.c (.d (.int .i64 0))))])
  (.seq (.seq (.reg [.r 8 (.fld 0 (.t 1)),
     .o 9 (.ld1 (.t 8)),
     .r 10 (.len (.t 9)),
     .r 11 (.bin .eql (.t 10) (.c (.d (.int .i64 0))))])
  (.cond (.t 11)
    (.seq (.reg [.r 2 (.mv (.c (.d (.int .i64 9))))])
    .ret)
    .skip))
  (.seq (.seq (.reg [.r 12 (.fld 0 (.t 1)),
     .o 13 (.ld1 (.t 12)),
     .r 14 (.len (.t 13)),
     .r 15 (.bin .gtr (.t 14) (.c (.d (.int .i64 20))))])
  (.cond (.t 15)
    (.seq (.reg [.r 2 (.mv (.c (.d (.int .i64 2))))])
    .ret)
    .skip))
  (.seq (.seq (.reg [.r 16 (.fld 0 (.t 1)),
     .o 17 (.ld1 (.t 16)),
     .r 18 (.len (.t 17)),
     .r 19 (.mv (.c (.d (.int .i64 0))))])
  sc_wire_elementFault_B2)
  (.seq (.reg [.r 2 (.mv (.c (.d (.int .i64 0))))])
  .ret)))))
theorem fit_wire_elementFault : fits Tryz.prog 22 Tryz.f22 sc_wire_elementFault [.t 2] 1 = true := by kernel_rfl

def sc_interchangeref2_CheckSegments_L1 : SC :=
  (.seq (.seq (.reg [.r 8 (.mv (.t 3)),
     .r 9 (.mv (.t 0)),
     .r 10 (.len (.t 9)),
     .r 11 (.bin .lss (.t 8) (.t 10))])
  (.cond (.t 11)
    .skip
    (.exit 0)))
  (.seq (.block 1 (.seq (.reg [.r 14 (.mv (.t 0)),
       .r 15 (.mv (.t 3)),
       .r 16 (.idx 2 (.t 14) (.t 15)),
       .o 17 (.ldA 2 (.t 16)),
       .c 18 (.f 32) [.t 17],
       .r 4 (.mv (.t 18))])
    (.seq (.reg [.r 19 (.mv (.t 4)),
       .r 20 (.bin .neq (.t 19) (.c (.d (.int .i64 0))))])
    (.cond (.t 20)
      (.seq (.reg [.r 21 (.mv (.t 4)),
         .r 2 (.mv (.t 21))])
      .ret)
      .skip))))
  (.reg [.r 12 (.mv (.t 3)),
     .r 13 (.bin .add (.t 12) (.c (.d (.int .i64 1)))),
     .r 3 (.mv (.t 13))])))
def sc_interchangeref2_CheckSegments_B1 : SC := .block 0 (.loop sc_interchangeref2_CheckSegments_L1)
/-- interchange/interchangeref2.CheckSegments -/
def sc_interchangeref2_CheckSegments : SC :=
  (.seq (.reg [.r 2 (.mv (.c (.d (.int .i64 0))))])
  (.seq (.seq (.reg [.r 5 (.mv (.t 0)),
     .r 6 (.len (.t 5)),
     .r 7 (.bin .gtr (.t 6) (.c (.d (.int .i64 2000))))])
  (.cond (.t 7)
    (.seq (.reg [.r 2 (.mv (.c (.d (.int .i64 2))))])
    .ret)
    .skip))
  (.seq (.seq (.reg [.r 3 (.mv (.c (.d (.int .i64 0))))])
  sc_interchangeref2_CheckSegments_B1)
  (.seq (.reg [.r 2 (.mv (.c (.d (.int .i64 0))))])
  .ret))))
theorem fit_interchangeref2_CheckSegments : fits Tryz.prog 14 Tryz.f14 sc_interchangeref2_CheckSegments [.t 2] 1 = true := by kernel_rfl

set_option maxRecDepth 100000 in
set_option maxHeartbeats 40000000 in
noncomputable def sims_G1_3_0 : (∀ (x0 : Tapi_Element), {m : Option (Int) // ∀ r, m = some r → PureSpec Tryz.prog 22 [.agg (rTapi_Element x0)] (.int .i64 r)}) × (∀ (x0 : List Tapi_Segment), {m : Option (Int) // ∀ r, m = some r → PureSpec Tryz.prog 14 [.slice (List.map rTapi_Segment x0)] (.int .i64 r)}) := by
  refine ⟨?g0, ?g1⟩
  case' g0 => (intro x0; apply Subtype.mk; intro r hm; apply pure_walk Tryz.func22 fit_wire_elementFault; unfold sc_wire_elementFault)
  case' g1 => (intro x0; apply Subtype.mk; intro r hm; apply pure_walk Tryz.func14 fit_interchangeref2_CheckSegments; unfold sc_interchangeref2_CheckSegments)
  all_goals (repeat' (first | with_reducible refine W_seq ?_ | with_reducible refine W_reg ?_ | with_reducible refine W_block ?_ | with_reducible refine W_skip ?_ | with_reducible refine W_ret ?_ | with_reducible refine W_exit ?_ | with_reducible refine O_nil ?_ | with_reducible refine K_seq ?_ | with_reducible refine K_seqE ?_ | with_reducible refine K_seqR ?_ | with_reducible refine K_block ?_ | with_reducible refine K_blockR ?_ | with_reducible refine O_o2r ?_ | ((with_reducible apply O_idxr hm); (iterate 2 (simp only [push_cast, seval]; rfl)); (intro _; rfl); intro e hm) | ((with_reducible apply O_r); (simp only [push_cast, seval]; rfl); (first | exact trivial)) | ((with_reducible apply O_cF hm); (simp only [push_cast, seval]; rfl); (first | apply spec_wire_textFault _ | apply spec_interchangeref2_CheckOne _); (any_goals ((repeat' (first | rfl)); done)); intro x hm) | ((with_reducible apply S_condB hm); (simp only [push_cast, seval]; rfl); intro hm; rotate_left; intro hm) | ((with_reducible apply K_endS hm); (focus (simp only [resOf, resL, RV.get, push_cast, seval]; rfl)); (focus ((repeat' (first | rfl)); done))) | ((with_reducible apply K_leave hm); intro r hm) | ((with_reducible apply K_leaveR hm); intro r hm) | ((apply S_loopY (b := 2) (X := sc_wire_elementFault_B1) (x := sc_wire_elementFault_L1) rfl (fun (c : SV × SV × SV × SV × SV) (s : Int) => st [(17, c.1), (18, c.2.1), (19, c.2.2.1), (29, c.2.2.2.1), (30, c.2.2.2.2), (31, .d (.int .i64 s))] []) (c := (_, _, _, _, _)) (s0 := _) hm); (focus (first | (dsimp only; done))); (with_reducible refine Then.mk ?_ ?_)) | ((apply S_loopY (b := 0) (X := sc_wire_elementFault_B2) (x := sc_wire_elementFault_L2) rfl (fun (c : SV × SV) (s : Int) => st [(17, c.1), (18, c.2), (19, .d (.int .i64 s))] []) (c := (_, _)) (s0 := _) hm); (focus (first | (dsimp only; done))); (with_reducible refine Then.mk ?_ ?_)) | ((apply S_loopY (b := 0) (X := sc_interchangeref2_CheckSegments_B1) (x := sc_interchangeref2_CheckSegments_L1) rfl (fun (c : SV) (s : Int) => st [(0, c), (3, .d (.int .i64 s))] []) (c := _) (s0 := _) hm); (focus (first | (dsimp only; done))); (with_reducible refine Then.mk ?_ ?_)) | ((apply K_next (s' := _) hm); (focus (first | (dsimp only; done)))) | ((apply K_brk (s' := _) hm); (focus (first | (dsimp only; done)))) | (((with_reducible apply K_brkR hm); intro r hm)) | (((with_reducible apply LoopB.of); (focus (first | (dsimp only; done))); (focus ((intro _; repeat' (first | with_reducible exact impC_end | with_reducible refine impC_seq ?_ | with_reducible refine impC_block ?_ | ((with_reducible refine impC_rnd ?_); intro _) | ((with_reducible refine impC_brk ?_); intro _))))); (intro s o hm; first | unfold sc_wire_elementFault_L1 | unfold sc_wire_elementFault_L2 | unfold sc_interchangeref2_CheckSegments_L1); rotate_left; intro s hm)) | (((apply imp_stT; (repeat' (first | with_reducible exact keepT_nil | with_reducible exact keepC_nil | with_reducible apply keepT_cons | ((with_reducible apply svle_eq); (focus (first | (simp only [push_cast, seval]; rfl))); (focus ((repeat' (first | rfl)); done))))); done)))))
noncomputable def m_wire_elementFault (x0 : Tapi_Element) : Option (Int) := (sims_G1_3_0.1 x0).1
theorem spec_wire_elementFault (x0 : Tapi_Element) : ∀ r, m_wire_elementFault x0 = some r → PureSpec Tryz.prog 22 [.agg (rTapi_Element x0)] (.int .i64 r) := (sims_G1_3_0.1 x0).2
def sc_wire_CheckSegments_L1 : SC :=
  (.seq (.reg [.r 29 (.bin .lss (.t 28) (.t 27))])
  (.seq (.cond (.t 29)
    .skip
    (.exit 2))
  (.seq (.block 3 (.seq (.reg [.r 30 (.idx 1 (.t 26) (.t 28)),
       .o 31 (.ldA 1 (.t 30)),
       .w 6 (.boxM (.c (.agg [.nils]))),
       .w 0 (.st 1 (.t 6) (.t 31))])
    (.seq (.reg [.o 32 (.ldA 1 (.t 6)),
       .c 33 (.f 22) [.t 32],
       .r 7 (.mv (.t 33))])
    (.seq (.reg [.r 34 (.mv (.t 7)),
       .r 35 (.bin .neq (.t 34) (.c (.d (.int .i64 0))))])
    (.cond (.t 35)
      (.seq (.reg [.r 36 (.mv (.t 7)),
         .r 2 (.mv (.t 36))])
      .ret)
      .skip)))))
  (.reg [.r 37 (.bin .add (.t 28) (.c (.d (.int .i64 1)))),
     .r 28 (.mv (.t 37))]))))
def sc_wire_CheckSegments_B1 : SC := .block 2 (.loop sc_wire_CheckSegments_L1)
def sc_wire_CheckSegments_L2 : SC :=
  (.seq (.reg [.r 14 (.bin .lss (.t 13) (.t 12))])
  (.seq (.cond (.t 14)
    .skip
    (.exit 0))
  (.seq (.block 1 (.seq (.reg [.r 15 (.idx 2 (.t 11) (.t 13)),
       .o 16 (.ldA 2 (.t 15)),
       .w 4 (.boxM (.c (.agg [.d (.str []), .nils]))),
       .w 0 (.st 2 (.t 4) (.t 16))])
    (.seq (.seq (.reg [.r 17 (.fld 0 (.t 4)),
       .o 18 (.ld1 (.t 17)),
       .c 19 (.f 21) [.t 18],
       .r 20 (.not (.t 19))])
    (.cond (.t 20)
      (.seq (.reg [.r 2 (.mv (.c (.d (.int .i64 5))))])
      .ret)
      .skip))
    (.seq (.seq (.reg [.r 21 (.fld 1 (.t 4)),
       .o 22 (.ld1 (.t 21)),
       .r 23 (.len (.t 22)),
       .r 24 (.bin .gtr (.t 23) (.c (.d (.int .i64 50))))])
    (.cond (.t 24)
      (.seq (.reg [.r 2 (.mv (.c (.d (.int .i64 2))))])
      .ret)
      .skip))
    (.seq (.reg [.r 25 (.fld 1 (.t 4)),
       .o 26 (.ld1 (.t 25)),
       .r 27 (.len (.t 26)),
       .r 28 (.mv (.c (.d (.int .i64 0))))])
    sc_wire_CheckSegments_B1)))))
  (.reg [.r 38 (.bin .add (.t 13) (.c (.d (.int .i64 1)))),
     .r 13 (.mv (.t 38))]))))
def sc_wire_CheckSegments_B2 : SC := .block 0 (.loop sc_wire_CheckSegments_L2)
/-- interchange/wire.CheckSegments -/
def sc_wire_CheckSegments : SC :=
  (.seq (.reg [.r 2 (.mv (.c (.d (.int .i64 0))))])
  (.seq (.seq (.reg [.r 8 (.mv (.t 0)),
     .r 9 (.len (.t 8)),
     .r 10 (.bin .gtr (.t 9) (.c (.d (.int .i64 2000))))])
  (.cond (.t 10)
    (.seq (.reg [.r 2 (.mv (.c (.d (.int .i64 2))))])
    .ret)
    .skip))
  (.seq (.seq (.reg [.r 11 (.mv (.t 0)),
     .r 12 (.len (.t 11)),
     .r 13 (.mv (.c (.d (.int .i64 0))))])
  sc_wire_CheckSegments_B2)
  (.seq (.reg [.r 2 (.mv (.c (.d (.int .i64 0))))])
  .ret))))
theorem fit_wire_CheckSegments : fits Tryz.prog 11 Tryz.f11 sc_wire_CheckSegments [.t 2] 1 = true := by kernel_rfl

set_option maxRecDepth 100000 in
set_option maxHeartbeats 40000000 in
noncomputable def sims_G1_4_0 : (∀ (x0 : List Tapi_Segment), {m : Option (Int) // ∀ r, m = some r → PureSpec Tryz.prog 11 [.slice (List.map rTapi_Segment x0)] (.int .i64 r)}) := by
  (intro x0; apply Subtype.mk; intro r hm; apply pure_walk Tryz.func11 fit_wire_CheckSegments; unfold sc_wire_CheckSegments)
  repeat' (first | with_reducible refine W_seq ?_ | with_reducible refine W_reg ?_ | with_reducible refine W_block ?_ | with_reducible refine W_skip ?_ | with_reducible refine W_ret ?_ | with_reducible refine W_exit ?_ | with_reducible refine O_nil ?_ | with_reducible refine K_seq ?_ | with_reducible refine K_seqE ?_ | with_reducible refine K_seqR ?_ | with_reducible refine K_block ?_ | with_reducible refine K_blockR ?_ | with_reducible refine O_o2r ?_ | ((with_reducible apply O_idxr hm); (iterate 2 (simp only [push_cast, seval]; rfl)); (intro _; rfl); intro e hm) | ((with_reducible apply O_r); (simp only [push_cast, seval]; rfl); (first | exact trivial)) | ((with_reducible apply O_cF hm); (simp only [push_cast, seval]; rfl); (first | apply spec_kit_IsTag _ | apply spec_wire_elementFault _); (any_goals ((repeat' (first | rfl)); done)); intro x hm) | ((with_reducible apply O_w); (simp only [push_cast, seval]; rfl); (first | exact trivial)) | ((with_reducible apply S_condB hm); (simp only [push_cast, seval]; rfl); intro hm; rotate_left; intro hm) | ((with_reducible apply K_endS hm); (focus (simp only [resOf, resL, RV.get, push_cast, seval]; rfl)); (focus ((repeat' (first | rfl)); done))) | ((with_reducible apply K_leave hm); intro r hm) | ((with_reducible apply K_leaveR hm); intro r hm) | ((apply S_loopY (b := 2) (X := sc_wire_CheckSegments_B1) (x := sc_wire_CheckSegments_L1) rfl (fun (c : SV × SV × SV × SV × SV) (s : Int) => st [(11, c.1), (12, c.2.1), (13, c.2.2.1), (26, c.2.2.2.1), (27, c.2.2.2.2), (28, .d (.int .i64 s))] []) (c := (_, _, _, _, _)) (s0 := _) hm); (focus (first | (dsimp only; done))); (with_reducible refine Then.mk ?_ ?_)) | ((apply S_loopY (b := 0) (X := sc_wire_CheckSegments_B2) (x := sc_wire_CheckSegments_L2) rfl (fun (c : SV × SV) (s : Int) => st [(11, c.1), (12, c.2), (13, .d (.int .i64 s))] []) (c := (_, _)) (s0 := _) hm); (focus (first | (dsimp only; done))); (with_reducible refine Then.mk ?_ ?_)) | ((apply K_next (s' := _) hm); (focus (first | (dsimp only; done)))) | ((apply K_brk (s' := _) hm); (focus (first | (dsimp only; done)))) | (((with_reducible apply K_brkR hm); intro r hm)) | (((with_reducible apply LoopB.of); (focus (first | (dsimp only; done))); (focus ((intro _; repeat' (first | with_reducible exact impC_end | with_reducible refine impC_seq ?_ | with_reducible refine impC_block ?_ | ((with_reducible refine impC_rnd ?_); intro _) | ((with_reducible refine impC_brk ?_); intro _))))); (intro s o hm; first | unfold sc_wire_CheckSegments_L1 | unfold sc_wire_CheckSegments_L2); rotate_left; intro s hm)) | (((apply imp_stT; (repeat' (first | with_reducible exact keepT_nil | with_reducible exact keepC_nil | with_reducible apply keepT_cons | ((with_reducible apply svle_eq); (focus (first | (simp only [push_cast, seval]; rfl))); (focus ((repeat' (first | rfl)); done))))); done))))
noncomputable def m_wire_CheckSegments (x0 : List Tapi_Segment) : Option (Int) := (sims_G1_4_0 x0).1
theorem spec_wire_CheckSegments (x0 : List Tapi_Segment) : ∀ r, m_wire_CheckSegments x0 = some r → PureSpec Tryz.prog 11 [.slice (List.map rTapi_Segment x0)] (.int .i64 r) := (sims_G1_4_0 x0).2

end Go.Proofs.YtcbdpjgejbcpgaaGreatDoor

/-
  Bodies of functions and what they compute, printed by programs of mine (wip/tool/gen.py, sc.py) out of the translation; the kernel holds each against the translation.
-/
namespace Go.Proofs.YtcbdpjgejbcpgaaGreatDoor
open Go.RowKit
set_option linter.unusedSimpArgs false
set_option linter.unusedVariables false
structure Tapi_Spot where
  fElement : Int
  fRepeat : Int
  fPart : Int
  deriving DecidableEq
def rTapi_Spot (x : Tapi_Spot) : List DV := [.int .i64 x.fElement, .int .i64 x.fRepeat, .int .i64 x.fPart]
attribute [push_cast] rTapi_Spot
theorem fT_Tapi_Spot {d0 d1 d2 : DV} {v0 : Int} {v1 : Int} {v2 : Int} (h0 : d0 = .int .i64 v0) (h1 : d1 = .int .i64 v1) (h2 : d2 = .int .i64 v2) : [d0, d1, d2] = rTapi_Spot ⟨v0, v1, v2⟩ := by unfold rTapi_Spot; simp only [h0, h1, h2, List.cons_append, List.nil_append, List.append_assoc, List.append_nil]
theorem cT_Tapi_Spot {d0 d1 d2 : SV} {v0 : Int} {v1 : Int} {v2 : Int} (h0 : svle d0 (.d (.int .i64 v0))) (h1 : svle d1 (.d (.int .i64 v1))) (h2 : svle d2 (.d (.int .i64 v2))) : cellsle [d0, d1, d2] (dR (rTapi_Spot ⟨v0, v1, v2⟩)) := by have h := (cellsle.append (cellsle.consS h0 cellsle.nil) (cellsle.append (cellsle.consS h1 cellsle.nil) (cellsle.consS h2 cellsle.nil))); simpa only [rTapi_Spot, dR, List.map_append, List.map_cons, List.map_nil, List.cons_append, List.nil_append, List.append_assoc, List.append_nil] using h
structure Tapi_Flaw where
  fKind : Int
  fSegment : Int
  fAt : Tapi_Spot
  fName : List UInt8
  deriving DecidableEq
def rTapi_Flaw (x : Tapi_Flaw) : List DV := [.int .i64 x.fKind, .int .i64 x.fSegment] ++ rTapi_Spot x.fAt ++ [.str x.fName]
attribute [push_cast] rTapi_Flaw
theorem fT_Tapi_Flaw {d0 d1 d2 d3 d4 d5 : DV} {v0 : Int} {v1 : Int} {v2 : Tapi_Spot} {v3 : List UInt8} (h0 : d0 = .int .i64 v0) (h1 : d1 = .int .i64 v1) (h2 : [d2, d3, d4] = rTapi_Spot v2) (h3 : d5 = .str v3) : [d0, d1, d2, d3, d4, d5] = rTapi_Flaw ⟨v0, v1, v2, v3⟩ := by unfold rTapi_Flaw; simp only [h0, h1, ← h2, h3, List.cons_append, List.nil_append, List.append_assoc, List.append_nil]
structure Tapi_MessageReply where
  fRef : List UInt8
  fVerdict : Int
  fUnknown : Bool
  fFlaws : List Tapi_Flaw
  fFailing : List (List UInt8)
  deriving DecidableEq
def rTapi_MessageReply (x : Tapi_MessageReply) : List DV := [.str x.fRef, .int .i64 x.fVerdict, .bool x.fUnknown, .slice (List.map rTapi_Flaw x.fFlaws), .slice (List.map rowS x.fFailing)]
attribute [push_cast] rTapi_MessageReply
theorem fT_Tapi_MessageReply {d0 d1 d2 d3 d4 : DV} {v0 : List UInt8} {v1 : Int} {v2 : Bool} {v3 : List Tapi_Flaw} {v4 : List (List UInt8)} (h0 : d0 = .str v0) (h1 : d1 = .int .i64 v1) (h2 : d2 = .bool v2) (h3 : d3 = .slice (List.map rTapi_Flaw v3)) (h4 : d4 = .slice (List.map rowS v4)) : [d0, d1, d2, d3, d4] = rTapi_MessageReply ⟨v0, v1, v2, v3, v4⟩ := by unfold rTapi_MessageReply; simp only [h0, h1, h2, h3, h4, List.cons_append, List.nil_append, List.append_assoc, List.append_nil]
structure Tapi_GroupReply where
  fRef : List UInt8
  fVerdict : Int
  fMessages : List Tapi_MessageReply
  deriving DecidableEq
def rTapi_GroupReply (x : Tapi_GroupReply) : List DV := [.str x.fRef, .int .i64 x.fVerdict, .slice (List.map rTapi_MessageReply x.fMessages)]
attribute [push_cast] rTapi_GroupReply
theorem fT_Tapi_GroupReply {d0 d1 d2 : DV} {v0 : List UInt8} {v1 : Int} {v2 : List Tapi_MessageReply} (h0 : d0 = .str v0) (h1 : d1 = .int .i64 v1) (h2 : d2 = .slice (List.map rTapi_MessageReply v2)) : [d0, d1, d2] = rTapi_GroupReply ⟨v0, v1, v2⟩ := by unfold rTapi_GroupReply; simp only [h0, h1, h2, List.cons_append, List.nil_append, List.append_assoc, List.append_nil]
structure Tapi_Reply where
  fRef : List UInt8
  fVerdict : Int
  fGroups : List Tapi_GroupReply
  deriving DecidableEq
def rTapi_Reply (x : Tapi_Reply) : List DV := [.str x.fRef, .int .i64 x.fVerdict, .slice (List.map rTapi_GroupReply x.fGroups)]
attribute [push_cast] rTapi_Reply
theorem fT_Tapi_Reply {d0 d1 d2 : DV} {v0 : List UInt8} {v1 : Int} {v2 : List Tapi_GroupReply} (h0 : d0 = .str v0) (h1 : d1 = .int .i64 v1) (h2 : d2 = .slice (List.map rTapi_GroupReply v2)) : [d0, d1, d2] = rTapi_Reply ⟨v0, v1, v2⟩ := by unfold rTapi_Reply; simp only [h0, h1, h2, List.cons_append, List.nil_append, List.append_assoc, List.append_nil]
theorem cT_Tapi_Reply {d0 d1 d2 : SV} {v0 : List UInt8} {v1 : Int} {v2 : List Tapi_GroupReply} (h0 : svle d0 (.d (.str v0))) (h1 : svle d1 (.d (.int .i64 v1))) (h2 : svle d2 (.d (.slice (List.map rTapi_GroupReply v2)))) : cellsle [d0, d1, d2] (dR (rTapi_Reply ⟨v0, v1, v2⟩)) := by have h := (cellsle.append (cellsle.consS h0 cellsle.nil) (cellsle.append (cellsle.consS h1 cellsle.nil) (cellsle.consS h2 cellsle.nil))); simpa only [rTapi_Reply, dR, List.map_append, List.map_cons, List.map_nil, List.cons_append, List.nil_append, List.append_assoc, List.append_nil] using h
/-- interchange/kit.IsRef -/
def sc_kit_IsRef : SC :=
  (.seq (.reg [.r 2 (.mv (.c (.d (.bool false))))])
  (.seq (.reg (.r 3 (.mv (.t 0)) :: .r 4 (.lenT (.t 3)) :: .r 5 (.bin .geq (.t 4) (.c (.d (.int .i64 1)))) :: .r 6 (.mv (.t 5)) :: gapp [7, 8, 9] 6 true (.r 7 (.mv (.t 0)) :: .r 8 (.lenT (.t 7)) :: .r 9 (.bin .leq (.t 8) (.c (.d (.int .i64 14)))) :: []) (.r 10 (.pick (.t 6) (.t 9) (.c (.d (.bool false)))) :: .r 11 (.mv (.t 10)) :: gapp [12, 13, 14] 11 true (.r 12 (.mv (.t 0)) :: .c 13 (.f 54) [.t 12, .c (.d (.str [65, 66, 67, 68, 69, 70, 71, 72, 73, 74, 75, 76, 77, 78, 79, 80, 81, 82, 83, 84, 85, 86, 87, 88, 89, 90, 48, 49, 50, 51, 52, 53, 54, 55, 56, 57, 45]))] :: .r 14 (.bin .eql (.t 13) (.c (.d (.str [])))) :: []) (.r 15 (.pick (.t 11) (.t 14) (.c (.d (.bool false)))) :: .r 2 (.mv (.t 15)) :: []))))
  .ret))
theorem fit_kit_IsRef : fits Tryz.prog 28 Tryz.f28 sc_kit_IsRef [.t 2] 1 = true := by kernel_rfl

/-- interchange/kit.Outside -/
def sc_kit_Outside : SC :=
  (.seq (.reg [.r 6 (.mv (.c (.d (.bool false))))])
  (.seq (.reg (.r 7 (.mv (.t 0)) :: .r 8 (.mv (.t 1)) :: .r 9 (.bin .lss (.t 7) (.t 8)) :: .r 10 (.mv (.t 9)) :: gapp [11, 12, 13] 10 false (.r 11 (.mv (.t 0)) :: .r 12 (.mv (.t 2)) :: .r 13 (.bin .gtr (.t 11) (.t 12)) :: []) (.r 14 (.pick (.t 10) (.c (.d (.bool true))) (.t 13)) :: .r 6 (.mv (.t 14)) :: [])))
  .ret))
theorem fit_kit_Outside : fits Tryz.prog 55 Tryz.f55 sc_kit_Outside [.t 6] 3 = true := by kernel_rfl

/-- interchange/reply.groupFault$1 -/
def sc_reply_groupFault_1 : SC :=
  (.seq (.reg [.r 2 (.boxI (.t 0)),
     .r 3 (.mv (.c (.d (.bool false))))])
  (.seq (.reg [.r 4 (.fld 0 (.t 2)),
     .o 5 (.ld1 (.t 4)),
     .r 6 (.fld 0 (.t 1)),
     .o 7 (.ld1 (.t 6)),
     .r 8 (.bin .eql (.t 5) (.t 7)),
     .r 3 (.mv (.t 8))])
  .ret))
theorem fit_reply_groupFault_1 : fits Tryz.prog 57 Tryz.f57 sc_reply_groupFault_1 [.t 3] 2 = true := by kernel_rfl

def sc_slices_IndexFunc_interchange_api_GroupReply_interchange_api_GroupReply_L1 : SC :=
  (.seq (.reg [.r 9 (.bin .lss (.t 8) (.t 7))])
  (.seq (.cond (.t 9)
    .skip
    (.exit 0))
  (.seq (.block 1 (.seq (.reg [.r 10 (.mv (.t 8)),
       .r 5 (.mv (.t 10))])
    (.seq (.reg [.r 11 (.mv (.t 1)),
       .r 12 (.mv (.t 0)),
       .r 13 (.mv (.t 5)),
       .r 14 (.idx 3 (.t 12) (.t 13)),
       .o 15 (.ldA 3 (.t 14)),
       .c 16 (.t 11) [.t 15]])
    (.cond (.t 16)
      (.seq (.reg [.r 17 (.mv (.t 5)),
         .r 4 (.mv (.t 17))])
      .ret)
      .skip))))
  (.reg [.r 18 (.bin .add (.t 8) (.c (.d (.int .i64 1)))),
     .r 8 (.mv (.t 18))]))))
def sc_slices_IndexFunc_interchange_api_GroupReply_interchange_api_GroupReply_B1 : SC := .block 0 (.loop sc_slices_IndexFunc_interchange_api_GroupReply_interchange_api_GroupReply_L1)
/-- slices.IndexFunc[[]interchange/api.GroupReply,interchange/api.GroupReply] -/
def sc_slices_IndexFunc_interchange_api_GroupReply_interchange_api_GroupReply : SC :=
  (.seq (.reg [.r 4 (.mv (.c (.d (.int .i64 0))))])
  (.seq (.seq (.reg [.r 6 (.mv (.t 0)),
     .r 7 (.len (.t 6)),
     .r 8 (.mv (.c (.d (.int .i64 0))))])
  sc_slices_IndexFunc_interchange_api_GroupReply_interchange_api_GroupReply_B1)
  (.seq (.reg [.r 4 (.mv (.c (.d (.int .i64 (-1)))))])
  .ret)))
theorem fit_slices_IndexFunc_interchange_api_GroupReply_interchange_api_GroupReply : fits Tryz.prog 83 Tryz.f83 sc_slices_IndexFunc_interchange_api_GroupReply_interchange_api_GroupReply [.t 4] 2 = true := by kernel_rfl

/-- interchange/reply.messageFault$1 -/
def sc_reply_messageFault_1 : SC :=
  (.seq (.reg [.r 2 (.boxI (.t 0)),
     .r 3 (.mv (.c (.d (.bool false))))])
  (.seq (.reg [.r 4 (.fld 0 (.t 2)),
     .o 5 (.ld1 (.t 4)),
     .r 6 (.fld 0 (.t 1)),
     .o 7 (.ld1 (.t 6)),
     .r 8 (.bin .eql (.t 5) (.t 7)),
     .r 3 (.mv (.t 8))])
  .ret))
theorem fit_reply_messageFault_1 : fits Tryz.prog 85 Tryz.f85 sc_reply_messageFault_1 [.t 3] 2 = true := by kernel_rfl

def sc_slices_IndexFunc_interchange_api_MessageReply_interchange_api_MessageReply_L1 : SC :=
  (.seq (.reg [.r 9 (.bin .lss (.t 8) (.t 7))])
  (.seq (.cond (.t 9)
    .skip
    (.exit 0))
  (.seq (.block 1 (.seq (.reg [.r 10 (.mv (.t 8)),
       .r 5 (.mv (.t 10))])
    (.seq (.reg [.r 11 (.mv (.t 1)),
       .r 12 (.mv (.t 0)),
       .r 13 (.mv (.t 5)),
       .r 14 (.idx 5 (.t 12) (.t 13)),
       .o 15 (.ldA 5 (.t 14)),
       .c 16 (.t 11) [.t 15]])
    (.cond (.t 16)
      (.seq (.reg [.r 17 (.mv (.t 5)),
         .r 4 (.mv (.t 17))])
      .ret)
      .skip))))
  (.reg [.r 18 (.bin .add (.t 8) (.c (.d (.int .i64 1)))),
     .r 8 (.mv (.t 18))]))))
def sc_slices_IndexFunc_interchange_api_MessageReply_interchange_api_MessageReply_B1 : SC := .block 0 (.loop sc_slices_IndexFunc_interchange_api_MessageReply_interchange_api_MessageReply_L1)
/-- slices.IndexFunc[[]interchange/api.MessageReply,interchange/api.MessageReply] -/
def sc_slices_IndexFunc_interchange_api_MessageReply_interchange_api_MessageReply : SC :=
  (.seq (.reg [.r 4 (.mv (.c (.d (.int .i64 0))))])
  (.seq (.seq (.reg [.r 6 (.mv (.t 0)),
     .r 7 (.len (.t 6)),
     .r 8 (.mv (.c (.d (.int .i64 0))))])
  sc_slices_IndexFunc_interchange_api_MessageReply_interchange_api_MessageReply_B1)
  (.seq (.reg [.r 4 (.mv (.c (.d (.int .i64 (-1)))))])
  .ret)))
theorem fit_slices_IndexFunc_interchange_api_MessageReply_interchange_api_MessageReply : fits Tryz.prog 104 Tryz.f104 sc_slices_IndexFunc_interchange_api_MessageReply_interchange_api_MessageReply [.t 4] 2 = true := by kernel_rfl

/-- interchange/kit.IsName -/
def sc_kit_IsName : SC :=
  (.seq (.reg [.r 2 (.mv (.c (.d (.bool false))))])
  (.seq (.seq (.reg (.r 3 (.mv (.t 0)) :: .r 4 (.lenT (.t 3)) :: .r 5 (.bin .lss (.t 4) (.c (.d (.int .i64 1)))) :: .r 6 (.mv (.t 5)) :: gapp [7, 8, 9] 6 false (.r 7 (.mv (.t 0)) :: .r 8 (.lenT (.t 7)) :: .r 9 (.bin .gtr (.t 8) (.c (.d (.int .i64 40)))) :: []) (.r 10 (.pick (.t 6) (.c (.d (.bool true))) (.t 9)) :: .r 11 (.mv (.t 10)) :: gapp [12, 13, 14] 11 false (.r 12 (.mv (.t 0)) :: .r 13 (.sidx (.t 12) (.c (.d (.int .i64 0)))) :: .r 14 (.bin .lss (.t 13) (.c (.d (.int .u8 97)))) :: []) (.r 15 (.pick (.t 11) (.c (.d (.bool true))) (.t 14)) :: .r 16 (.mv (.t 15)) :: gapp [17, 18, 19] 16 false (.r 17 (.mv (.t 0)) :: .r 18 (.sidx (.t 17) (.c (.d (.int .i64 0)))) :: .r 19 (.bin .gtr (.t 18) (.c (.d (.int .u8 122)))) :: []) (.r 20 (.pick (.t 16) (.c (.d (.bool true))) (.t 19)) :: [])))))
  (.cond (.t 20)
    (.seq (.reg [.r 2 (.mv (.c (.d (.bool false))))])
    .ret)
    .skip))
  (.seq (.reg [.r 21 (.mv (.t 0)),
     .c 22 (.f 54) [.t 21, .c (.d (.str [97, 98, 99, 100, 101, 102, 103, 104, 105, 106, 107, 108, 109, 110, 111, 112, 113, 114, 115, 116, 117, 118, 119, 120, 121, 122, 48, 49, 50, 51, 52, 53, 54, 55, 56, 57, 45]))],
     .r 23 (.bin .eql (.t 22) (.c (.d (.str [])))),
     .r 2 (.mv (.t 23))])
  .ret)))
theorem fit_kit_IsName : fits Tryz.prog 87 Tryz.f87 sc_kit_IsName [.t 2] 1 = true := by kernel_rfl

/-- interchange/reply.together$1$1 -/
def sc_reply_together_1_1 : SC :=
  (.seq (.reg [.r 3 (.mv (.c (.d (.bool false))))])
  (.seq (.reg [.r 4 (.mv (.t 0)),
     .o 5 (.ld1 (.t 1)),
     .r 6 (.bin .neq (.t 4) (.t 5)),
     .r 3 (.mv (.t 6))])
  .ret))
theorem fit_reply_together_1_1 : fits Tryz.prog 89 Tryz.f89 sc_reply_together_1_1 [.t 3] 2 = true := by kernel_rfl

def sc_slices_IndexFunc_int_int_L1 : SC :=
  (.seq (.reg [.r 9 (.bin .lss (.t 8) (.t 7))])
  (.seq (.cond (.t 9)
    .skip
    (.exit 0))
  (.seq (.block 1 (.seq (.reg [.r 10 (.mv (.t 8)),
       .r 5 (.mv (.t 10))])
    (.seq (.reg [.r 11 (.mv (.t 1)),
       .r 12 (.mv (.t 0)),
       .r 13 (.mv (.t 5)),
       .r 14 (.idx 1 (.t 12) (.t 13)),
       .o 15 (.ld1 (.t 14)),
       .c 16 (.t 11) [.t 15]])
    (.cond (.t 16)
      (.seq (.reg [.r 17 (.mv (.t 5)),
         .r 4 (.mv (.t 17))])
      .ret)
      .skip))))
  (.reg [.r 18 (.bin .add (.t 8) (.c (.d (.int .i64 1)))),
     .r 8 (.mv (.t 18))]))))
def sc_slices_IndexFunc_int_int_B1 : SC := .block 0 (.loop sc_slices_IndexFunc_int_int_L1)
/-- slices.IndexFunc[[]int,int] -/
def sc_slices_IndexFunc_int_int : SC :=
  (.seq (.reg [.r 4 (.mv (.c (.d (.int .i64 0))))])
  (.seq (.seq (.reg [.r 6 (.mv (.t 0)),
     .r 7 (.len (.t 6)),
     .r 8 (.mv (.c (.d (.int .i64 0))))])
  sc_slices_IndexFunc_int_int_B1)
  (.seq (.reg [.r 4 (.mv (.c (.d (.int .i64 (-1)))))])
  .ret)))
theorem fit_slices_IndexFunc_int_int : fits Tryz.prog 106 Tryz.f106 sc_slices_IndexFunc_int_int [.t 4] 2 = true := by kernel_rfl

def sc_interchangeref2_IsReference_L1 : SC :=
  (.seq (.seq (.reg [.r 4 (.mv (.t 3)),
     .r 5 (.mv (.t 0)),
     .r 6 (.lenT (.t 5)),
     .r 7 (.bin .lss (.t 4) (.t 6))])
  (.cond (.t 7)
    .skip
    (.exit 0)))
  (.seq (.block 1 (.seq (.reg (.r 10 (.mv (.t 0)) :: .r 11 (.mv (.t 3)) :: .r 12 (.sidx (.t 10) (.t 11)) :: .r 13 (.bin .geq (.t 12) (.c (.d (.int .u8 65)))) :: .r 14 (.mv (.t 13)) :: gapp [15, 16, 17, 18] 14 true (.r 15 (.mv (.t 0)) :: .r 16 (.mv (.t 3)) :: .r 17 (.sidx (.t 15) (.t 16)) :: .r 18 (.bin .leq (.t 17) (.c (.d (.int .u8 90)))) :: []) (.r 19 (.pick (.t 14) (.t 18) (.c (.d (.bool false)))) :: .r 20 (.mv (.t 19)) :: gapp [21, 22, 23, 24, 25, 26, 27, 28, 29, 30] 20 false (.r 21 (.mv (.t 0)) :: .r 22 (.mv (.t 3)) :: .r 23 (.sidx (.t 21) (.t 22)) :: .r 24 (.bin .geq (.t 23) (.c (.d (.int .u8 48)))) :: .r 25 (.mv (.t 24)) :: gapp [26, 27, 28, 29] 25 true (.r 26 (.mv (.t 0)) :: .r 27 (.mv (.t 3)) :: .r 28 (.sidx (.t 26) (.t 27)) :: .r 29 (.bin .leq (.t 28) (.c (.d (.int .u8 57)))) :: []) (.r 30 (.pick (.t 25) (.t 29) (.c (.d (.bool false)))) :: [])) (.r 31 (.pick (.t 20) (.c (.d (.bool true))) (.t 30)) :: .r 32 (.mv (.t 31)) :: gapp [33, 34, 35, 36] 32 false (.r 33 (.mv (.t 0)) :: .r 34 (.mv (.t 3)) :: .r 35 (.sidx (.t 33) (.t 34)) :: .r 36 (.bin .eql (.t 35) (.c (.d (.int .u8 45)))) :: []) (.r 37 (.pick (.t 32) (.c (.d (.bool true))) (.t 36)) :: .r 38 (.not (.t 37)) :: [])))))
    (.cond (.t 38)
      (.seq (.reg [.r 2 (.mv (.c (.d (.bool false))))])
      .ret)
      .skip)))
  (.reg [.r 8 (.mv (.t 3)),
     .r 9 (.bin .add (.t 8) (.c (.d (.int .i64 1)))),
     .r 3 (.mv (.t 9))])))
def sc_interchangeref2_IsReference_B1 : SC := .block 0 (.loop sc_interchangeref2_IsReference_L1)
/-- interchange/interchangeref2.IsReference -/
def sc_interchangeref2_IsReference : SC :=
  (.seq (.reg [.r 2 (.mv (.c (.d (.bool false))))])
  (.seq (.seq (.reg [.r 3 (.mv (.c (.d (.int .i64 0))))])
  sc_interchangeref2_IsReference_B1)
  (.seq (.reg (.r 39 (.mv (.t 0)) :: .r 40 (.bin .neq (.t 39) (.c (.d (.str [])))) :: .r 41 (.mv (.t 40)) :: gapp [42, 43, 44] 41 true (.r 42 (.mv (.t 0)) :: .r 43 (.lenT (.t 42)) :: .r 44 (.bin .leq (.t 43) (.c (.d (.int .i64 14)))) :: []) (.r 45 (.pick (.t 41) (.t 44) (.c (.d (.bool false)))) :: .r 2 (.mv (.t 45)) :: [])))
  .ret)))
theorem fit_interchangeref2_IsReference : fits Tryz.prog 37 Tryz.f37 sc_interchangeref2_IsReference [.t 2] 1 = true := by kernel_rfl

/-- interchange/interchangeref7.within -/
def sc_interchangeref7_within : SC :=
  (.seq (.reg [.r 6 (.mv (.c (.d (.bool false))))])
  (.seq (.reg (.r 7 (.mv (.t 0)) :: .r 8 (.mv (.t 1)) :: .r 9 (.bin .geq (.t 7) (.t 8)) :: .r 10 (.mv (.t 9)) :: gapp [11, 12, 13] 10 true (.r 11 (.mv (.t 0)) :: .r 12 (.mv (.t 2)) :: .r 13 (.bin .leq (.t 11) (.t 12)) :: []) (.r 14 (.pick (.t 10) (.t 13) (.c (.d (.bool false)))) :: .r 6 (.mv (.t 14)) :: [])))
  .ret))
theorem fit_interchangeref7_within : fits Tryz.prog 64 Tryz.f64 sc_interchangeref7_within [.t 6] 3 = true := by kernel_rfl

def sc_interchangeref2_IsName_L1 : SC :=
  (.seq (.seq (.reg [.r 6 (.mv (.t 3)),
     .r 7 (.mv (.t 0)),
     .r 8 (.lenT (.t 7)),
     .r 9 (.bin .lss (.t 6) (.t 8))])
  (.cond (.t 9)
    .skip
    (.exit 0)))
  (.seq (.block 1 (.seq (.reg [.r 12 (.mv (.t 0)),
       .r 13 (.mv (.t 3)),
       .r 14 (.sidx (.t 12) (.t 13)),
       .r 4 (.mv (.t 14))])
    (.seq (.reg (.r 15 (.mv (.t 4)) :: .r 16 (.bin .geq (.t 15) (.c (.d (.int .u8 97)))) :: .r 17 (.mv (.t 16)) :: gapp [18, 19] 17 true (.r 18 (.mv (.t 4)) :: .r 19 (.bin .leq (.t 18) (.c (.d (.int .u8 122)))) :: []) (.r 20 (.pick (.t 17) (.t 19) (.c (.d (.bool false)))) :: .r 5 (.mv (.t 20)) :: [])))
    (.seq (.reg (.r 21 (.mv (.t 5)) :: .r 22 (.not (.t 21)) :: .r 23 (.mv (.t 22)) :: gapp [24, 25, 26, 27, 28, 29, 30, 31, 32, 33, 34, 35, 36, 37, 38] 23 true (.r 24 (.mv (.t 3)) :: .r 25 (.bin .eql (.t 24) (.c (.d (.int .i64 0)))) :: .r 26 (.mv (.t 25)) :: gapp [27, 28, 29, 30, 31, 32, 33, 34, 35, 36, 37] 26 false (.r 27 (.mv (.t 4)) :: .r 28 (.bin .neq (.t 27) (.c (.d (.int .u8 45)))) :: .r 29 (.mv (.t 28)) :: gapp [30, 31, 32, 33, 34, 35, 36] 29 true (.r 30 (.mv (.t 4)) :: .r 31 (.bin .geq (.t 30) (.c (.d (.int .u8 48)))) :: .r 32 (.mv (.t 31)) :: gapp [33, 34] 32 true (.r 33 (.mv (.t 4)) :: .r 34 (.bin .leq (.t 33) (.c (.d (.int .u8 57)))) :: []) (.r 35 (.pick (.t 32) (.t 34) (.c (.d (.bool false)))) :: .r 36 (.not (.t 35)) :: [])) (.r 37 (.pick (.t 29) (.t 36) (.c (.d (.bool false)))) :: [])) (.r 38 (.pick (.t 26) (.c (.d (.bool true))) (.t 37)) :: [])) (.r 39 (.pick (.t 23) (.t 38) (.c (.d (.bool false)))) :: [])))
    (.cond (.t 39)
      (.seq (.reg [.r 2 (.mv (.c (.d (.bool false))))])
      .ret)
      .skip)))))
  (.reg [.r 10 (.mv (.t 3)),
     .r 11 (.bin .add (.t 10) (.c (.d (.int .i64 1)))),
     .r 3 (.mv (.t 11))])))
def sc_interchangeref2_IsName_B1 : SC := .block 0 (.loop sc_interchangeref2_IsName_L1)
/-- interchange/interchangeref2.IsName -/
def sc_interchangeref2_IsName : SC :=
  (.seq (.reg [.r 2 (.mv (.c (.d (.bool false))))])
  (.seq (.seq (.reg [.r 3 (.mv (.c (.d (.int .i64 0))))])
  sc_interchangeref2_IsName_B1)
  (.seq (.reg (.r 40 (.mv (.t 0)) :: .r 41 (.bin .neq (.t 40) (.c (.d (.str [])))) :: .r 42 (.mv (.t 41)) :: gapp [43, 44, 45] 42 true (.r 43 (.mv (.t 0)) :: .r 44 (.lenT (.t 43)) :: .r 45 (.bin .leq (.t 44) (.c (.d (.int .i64 40)))) :: []) (.r 46 (.pick (.t 42) (.t 45) (.c (.d (.bool false)))) :: .r 2 (.mv (.t 46)) :: [])))
  .ret)))
theorem fit_interchangeref2_IsName : fits Tryz.prog 94 Tryz.f94 sc_interchangeref2_IsName [.t 2] 1 = true := by kernel_rfl

set_option maxRecDepth 100000 in
set_option maxHeartbeats 40000000 in
noncomputable def sims_G5_0_0 : (∀ (x0 : List UInt8), {m : Option (Bool) // ∀ r, m = some r → PureSpec Tryz.prog 28 [.str x0] (.bool r)}) × (∀ (x0 : Int) (x1 : Int) (x2 : Int), {m : Option (Bool) // ∀ r, m = some r → PureSpec Tryz.prog 55 [.int .i64 x0, .int .i64 x1, .int .i64 x2] (.bool r)}) × (∀ (x0 : Tapi_GroupReply) (y0 : Tapi_GroupReply), {m : Option (Bool) // ∀ r, m = some r → PureSpec Tryz.prog 57 [.agg (rTapi_GroupReply x0), .ptr (rTapi_GroupReply y0)] (.bool r)}) × (∀ (x0 : List Tapi_GroupReply) (f1 : FuncId) (c1 : List DV) (p1 : Tapi_GroupReply → Option (Bool)) (h1 : ∀ a0 r, p1 a0 = some r → PureSpec Tryz.prog f1 ([.agg (rTapi_GroupReply a0)] ++ c1) (.bool r)), {m : Option (Int) // ∀ r, m = some r → PureSpec Tryz.prog 83 [.slice (List.map rTapi_GroupReply x0), .fn f1 c1] (.int .i64 r)}) × (∀ (x0 : Tapi_MessageReply) (y0 : Tapi_MessageReply), {m : Option (Bool) // ∀ r, m = some r → PureSpec Tryz.prog 85 [.agg (rTapi_MessageReply x0), .ptr (rTapi_MessageReply y0)] (.bool r)}) × (∀ (x0 : List Tapi_MessageReply) (f1 : FuncId) (c1 : List DV) (p1 : Tapi_MessageReply → Option (Bool)) (h1 : ∀ a0 r, p1 a0 = some r → PureSpec Tryz.prog f1 ([.agg (rTapi_MessageReply a0)] ++ c1) (.bool r)), {m : Option (Int) // ∀ r, m = some r → PureSpec Tryz.prog 104 [.slice (List.map rTapi_MessageReply x0), .fn f1 c1] (.int .i64 r)}) × (∀ (x0 : List UInt8), {m : Option (Bool) // ∀ r, m = some r → PureSpec Tryz.prog 87 [.str x0] (.bool r)}) × (∀ (x0 : Int) (y0 : Int), {m : Option (Bool) // ∀ r, m = some r → PureSpec Tryz.prog 89 [.int .i64 x0, .ptr (rowI y0)] (.bool r)}) × (∀ (x0 : List Int) (f1 : FuncId) (c1 : List DV) (p1 : Int → Option (Bool)) (h1 : ∀ a0 r, p1 a0 = some r → PureSpec Tryz.prog f1 ([.int .i64 a0] ++ c1) (.bool r)), {m : Option (Int) // ∀ r, m = some r → PureSpec Tryz.prog 106 [.slice (List.map rowI x0), .fn f1 c1] (.int .i64 r)}) × (∀ (x0 : List UInt8), {m : Option (Bool) // ∀ r, m = some r → PureSpec Tryz.prog 37 [.str x0] (.bool r)}) × (∀ (x0 : Int) (x1 : Int) (x2 : Int), {m : Option (Bool) // ∀ r, m = some r → PureSpec Tryz.prog 64 [.int .i64 x0, .int .i64 x1, .int .i64 x2] (.bool r)}) × (∀ (x0 : List UInt8), {m : Option (Bool) // ∀ r, m = some r → PureSpec Tryz.prog 94 [.str x0] (.bool r)}) := by
  refine ⟨?g0, ?g1, ?g2, ?g3, ?g4, ?g5, ?g6, ?g7, ?g8, ?g9, ?g10, ?g11⟩
  case' g0 => (intro x0; apply Subtype.mk; intro r hm; apply pure_walk Tryz.func28 fit_kit_IsRef; unfold sc_kit_IsRef)
  case' g1 => (intro x0 x1 x2; apply Subtype.mk; intro r hm; apply pure_walk Tryz.func55 fit_kit_Outside; unfold sc_kit_Outside)
  case' g2 => (intro x0 y0; apply Subtype.mk; intro r hm; apply pure_walk Tryz.func57 fit_reply_groupFault_1; unfold sc_reply_groupFault_1)
  case' g3 => (intro x0 f1 c1 p1 h1; apply Subtype.mk; intro r hm; apply pure_walk Tryz.func83 fit_slices_IndexFunc_interchange_api_GroupReply_interchange_api_GroupReply; unfold sc_slices_IndexFunc_interchange_api_GroupReply_interchange_api_GroupReply)
  case' g4 => (intro x0 y0; apply Subtype.mk; intro r hm; apply pure_walk Tryz.func85 fit_reply_messageFault_1; unfold sc_reply_messageFault_1)
  case' g5 => (intro x0 f1 c1 p1 h1; apply Subtype.mk; intro r hm; apply pure_walk Tryz.func104 fit_slices_IndexFunc_interchange_api_MessageReply_interchange_api_MessageReply; unfold sc_slices_IndexFunc_interchange_api_MessageReply_interchange_api_MessageReply)
  case' g6 => (intro x0; apply Subtype.mk; intro r hm; apply pure_walk Tryz.func87 fit_kit_IsName; unfold sc_kit_IsName)
  case' g7 => (intro x0 y0; apply Subtype.mk; intro r hm; apply pure_walk Tryz.func89 fit_reply_together_1_1; unfold sc_reply_together_1_1)
  case' g8 => (intro x0 f1 c1 p1 h1; apply Subtype.mk; intro r hm; apply pure_walk Tryz.func106 fit_slices_IndexFunc_int_int; unfold sc_slices_IndexFunc_int_int)
  case' g9 => (intro x0; apply Subtype.mk; intro r hm; apply pure_walk Tryz.func37 fit_interchangeref2_IsReference; unfold sc_interchangeref2_IsReference)
  case' g10 => (intro x0 x1 x2; apply Subtype.mk; intro r hm; apply pure_walk Tryz.func64 fit_interchangeref7_within; unfold sc_interchangeref7_within)
  case' g11 => (intro x0; apply Subtype.mk; intro r hm; apply pure_walk Tryz.func94 fit_interchangeref2_IsName; unfold sc_interchangeref2_IsName)
  all_goals (repeat' (first | with_reducible refine W_seq ?_ | with_reducible refine W_reg ?_ | with_reducible refine W_block ?_ | with_reducible refine W_skip ?_ | with_reducible refine W_ret ?_ | with_reducible refine W_exit ?_ | with_reducible refine O_nil ?_ | with_reducible refine K_seq ?_ | with_reducible refine K_seqE ?_ | with_reducible refine K_seqR ?_ | with_reducible refine K_block ?_ | with_reducible refine K_blockR ?_ | with_reducible refine O_o2r ?_ | ((with_reducible apply O_idxr hm); (iterate 2 (simp only [push_cast, seval]; rfl)); (intro _; rfl); intro e hm) | ((with_reducible apply O_sidxr hm); (iterate 2 (simp only [push_cast, seval]; rfl)); intro e hm) | ((with_reducible apply O_r); (simp only [push_cast, seval]; rfl); (first | exact trivial)) | ((with_reducible apply O_and hm); (simp only [push_cast, seval]; rfl); rfl; intro v hm; rotate_left; intro v g hm) | ((with_reducible apply O_or hm); (simp only [push_cast, seval]; rfl); rfl; intro v hm; rotate_left; intro v g hm) | ((with_reducible apply O_cF hm); (simp only [push_cast, seval]; rfl); (first | apply spec_strings_Trim _ _); (any_goals ((repeat' (first | rfl)); done)); intro x hm) | ((with_reducible apply O_cvS hm); (iterate 2 (simp only [push_cast, seval]; rfl)); (focus (first | exact h1 _)); intro x hm) | ((with_reducible apply S_condB hm); (simp only [push_cast, seval]; rfl); intro hm; rotate_left; intro hm) | ((with_reducible apply K_endS hm); (focus (simp only [resOf, resL, RV.get, push_cast, seval]; rfl)); (focus ((repeat' (first | rfl)); done))) | ((with_reducible apply K_bool hm); (simp only [push_cast, seval]; rfl)) | ((with_reducible apply K_leave hm); intro r hm) | ((with_reducible apply K_leaveR hm); intro r hm) | ((apply S_loopY (b := 0) (X := sc_slices_IndexFunc_interchange_api_GroupReply_interchange_api_GroupReply_B1) (x := sc_slices_IndexFunc_interchange_api_GroupReply_interchange_api_GroupReply_L1) rfl (fun (c : SV × SV × SV) (s : Int) => st [(0, c.1), (1, c.2.1), (7, c.2.2), (8, .d (.int .i64 s))] []) (c := (_, _, _)) (s0 := _) hm); (focus (first | (dsimp only; done))); (with_reducible refine Then.mk ?_ ?_)) | ((apply S_loopY (b := 0) (X := sc_slices_IndexFunc_interchange_api_MessageReply_interchange_api_MessageReply_B1) (x := sc_slices_IndexFunc_interchange_api_MessageReply_interchange_api_MessageReply_L1) rfl (fun (c : SV × SV × SV) (s : Int) => st [(0, c.1), (1, c.2.1), (7, c.2.2), (8, .d (.int .i64 s))] []) (c := (_, _, _)) (s0 := _) hm); (focus (first | (dsimp only; done))); (with_reducible refine Then.mk ?_ ?_)) | ((apply S_loopY (b := 0) (X := sc_slices_IndexFunc_int_int_B1) (x := sc_slices_IndexFunc_int_int_L1) rfl (fun (c : SV × SV × SV) (s : Int) => st [(0, c.1), (1, c.2.1), (7, c.2.2), (8, .d (.int .i64 s))] []) (c := (_, _, _)) (s0 := _) hm); (focus (first | (dsimp only; done))); (with_reducible refine Then.mk ?_ ?_)) | ((apply S_loopY (b := 0) (X := sc_interchangeref2_IsReference_B1) (x := sc_interchangeref2_IsReference_L1) rfl (fun (c : SV) (s : Int) => st [(0, c), (3, .d (.int .i64 s))] []) (c := _) (s0 := _) hm); (focus (first | (dsimp only; done))); (with_reducible refine Then.mk ?_ ?_)) | ((apply S_loopY (b := 0) (X := sc_interchangeref2_IsName_B1) (x := sc_interchangeref2_IsName_L1) rfl (fun (c : SV) (s : Int) => st [(0, c), (3, .d (.int .i64 s))] []) (c := _) (s0 := _) hm); (focus (first | (dsimp only; done))); (with_reducible refine Then.mk ?_ ?_)) | ((apply K_next (s' := _) hm); (focus (first | (dsimp only; done)))) | ((apply K_brk (s' := _) hm); (focus (first | (dsimp only; done)))) | (((with_reducible apply K_brkR hm); intro r hm)) | (((with_reducible apply LoopB.of); (focus (first | (dsimp only; done))); (focus ((intro _; repeat' (first | with_reducible exact impC_end | with_reducible refine impC_seq ?_)))); (intro s o hm; first | unfold sc_slices_IndexFunc_interchange_api_GroupReply_interchange_api_GroupReply_L1 | unfold sc_slices_IndexFunc_interchange_api_MessageReply_interchange_api_MessageReply_L1 | unfold sc_slices_IndexFunc_int_int_L1 | unfold sc_interchangeref2_IsReference_L1 | unfold sc_interchangeref2_IsName_L1); rotate_left; intro s hm)) | (((apply imp_stT; (repeat' (first | with_reducible exact keepT_nil | with_reducible exact keepC_nil | with_reducible apply keepT_cons | ((with_reducible apply svle_eq); (focus (first | (simp only [push_cast, seval]; rfl))); (focus ((repeat' (first | rfl)); done))))); done)))))
noncomputable def m_kit_IsRef (x0 : List UInt8) : Option (Bool) := (sims_G5_0_0.1 x0).1
theorem spec_kit_IsRef (x0 : List UInt8) : ∀ r, m_kit_IsRef x0 = some r → PureSpec Tryz.prog 28 [.str x0] (.bool r) := (sims_G5_0_0.1 x0).2
noncomputable def m_kit_Outside (x0 : Int) (x1 : Int) (x2 : Int) : Option (Bool) := (sims_G5_0_0.2.1 x0 x1 x2).1
theorem spec_kit_Outside (x0 : Int) (x1 : Int) (x2 : Int) : ∀ r, m_kit_Outside x0 x1 x2 = some r → PureSpec Tryz.prog 55 [.int .i64 x0, .int .i64 x1, .int .i64 x2] (.bool r) := (sims_G5_0_0.2.1 x0 x1 x2).2
noncomputable def m_reply_groupFault_1 (x0 : Tapi_GroupReply) (y0 : Tapi_GroupReply) : Option (Bool) := (sims_G5_0_0.2.2.1 x0 y0).1
theorem spec_reply_groupFault_1 (x0 : Tapi_GroupReply) (y0 : Tapi_GroupReply) : ∀ r, m_reply_groupFault_1 x0 y0 = some r → PureSpec Tryz.prog 57 [.agg (rTapi_GroupReply x0), .ptr (rTapi_GroupReply y0)] (.bool r) := (sims_G5_0_0.2.2.1 x0 y0).2
noncomputable def m_slices_IndexFunc_interchange_api_GroupReply_interchange_api_GroupReply (x0 : List Tapi_GroupReply) (f1 : FuncId) (c1 : List DV) (p1 : Tapi_GroupReply → Option (Bool)) (h1 : ∀ a0 r, p1 a0 = some r → PureSpec Tryz.prog f1 ([.agg (rTapi_GroupReply a0)] ++ c1) (.bool r)) : Option (Int) := (sims_G5_0_0.2.2.2.1 x0 f1 c1 p1 h1).1
theorem spec_slices_IndexFunc_interchange_api_GroupReply_interchange_api_GroupReply (x0 : List Tapi_GroupReply) (f1 : FuncId) (c1 : List DV) (p1 : Tapi_GroupReply → Option (Bool)) (h1 : ∀ a0 r, p1 a0 = some r → PureSpec Tryz.prog f1 ([.agg (rTapi_GroupReply a0)] ++ c1) (.bool r)) : ∀ r, m_slices_IndexFunc_interchange_api_GroupReply_interchange_api_GroupReply x0 f1 c1 p1 h1 = some r → PureSpec Tryz.prog 83 [.slice (List.map rTapi_GroupReply x0), .fn f1 c1] (.int .i64 r) := (sims_G5_0_0.2.2.2.1 x0 f1 c1 p1 h1).2
noncomputable def m_reply_messageFault_1 (x0 : Tapi_MessageReply) (y0 : Tapi_MessageReply) : Option (Bool) := (sims_G5_0_0.2.2.2.2.1 x0 y0).1
theorem spec_reply_messageFault_1 (x0 : Tapi_MessageReply) (y0 : Tapi_MessageReply) : ∀ r, m_reply_messageFault_1 x0 y0 = some r → PureSpec Tryz.prog 85 [.agg (rTapi_MessageReply x0), .ptr (rTapi_MessageReply y0)] (.bool r) := (sims_G5_0_0.2.2.2.2.1 x0 y0).2
noncomputable def m_slices_IndexFunc_interchange_api_MessageReply_interchange_api_MessageReply (x0 : List Tapi_MessageReply) (f1 : FuncId) (c1 : List DV) (p1 : Tapi_MessageReply → Option (Bool)) (h1 : ∀ a0 r, p1 a0 = some r → PureSpec Tryz.prog f1 ([.agg (rTapi_MessageReply a0)] ++ c1) (.bool r)) : Option (Int) := (sims_G5_0_0.2.2.2.2.2.1 x0 f1 c1 p1 h1).1
theorem spec_slices_IndexFunc_interchange_api_MessageReply_interchange_api_MessageReply (x0 : List Tapi_MessageReply) (f1 : FuncId) (c1 : List DV) (p1 : Tapi_MessageReply → Option (Bool)) (h1 : ∀ a0 r, p1 a0 = some r → PureSpec Tryz.prog f1 ([.agg (rTapi_MessageReply a0)] ++ c1) (.bool r)) : ∀ r, m_slices_IndexFunc_interchange_api_MessageReply_interchange_api_MessageReply x0 f1 c1 p1 h1 = some r → PureSpec Tryz.prog 104 [.slice (List.map rTapi_MessageReply x0), .fn f1 c1] (.int .i64 r) := (sims_G5_0_0.2.2.2.2.2.1 x0 f1 c1 p1 h1).2
noncomputable def m_kit_IsName (x0 : List UInt8) : Option (Bool) := (sims_G5_0_0.2.2.2.2.2.2.1 x0).1
theorem spec_kit_IsName (x0 : List UInt8) : ∀ r, m_kit_IsName x0 = some r → PureSpec Tryz.prog 87 [.str x0] (.bool r) := (sims_G5_0_0.2.2.2.2.2.2.1 x0).2
noncomputable def m_reply_together_1_1 (x0 : Int) (y0 : Int) : Option (Bool) := (sims_G5_0_0.2.2.2.2.2.2.2.1 x0 y0).1
theorem spec_reply_together_1_1 (x0 : Int) (y0 : Int) : ∀ r, m_reply_together_1_1 x0 y0 = some r → PureSpec Tryz.prog 89 [.int .i64 x0, .ptr (rowI y0)] (.bool r) := (sims_G5_0_0.2.2.2.2.2.2.2.1 x0 y0).2
noncomputable def m_slices_IndexFunc_int_int (x0 : List Int) (f1 : FuncId) (c1 : List DV) (p1 : Int → Option (Bool)) (h1 : ∀ a0 r, p1 a0 = some r → PureSpec Tryz.prog f1 ([.int .i64 a0] ++ c1) (.bool r)) : Option (Int) := (sims_G5_0_0.2.2.2.2.2.2.2.2.1 x0 f1 c1 p1 h1).1
theorem spec_slices_IndexFunc_int_int (x0 : List Int) (f1 : FuncId) (c1 : List DV) (p1 : Int → Option (Bool)) (h1 : ∀ a0 r, p1 a0 = some r → PureSpec Tryz.prog f1 ([.int .i64 a0] ++ c1) (.bool r)) : ∀ r, m_slices_IndexFunc_int_int x0 f1 c1 p1 h1 = some r → PureSpec Tryz.prog 106 [.slice (List.map rowI x0), .fn f1 c1] (.int .i64 r) := (sims_G5_0_0.2.2.2.2.2.2.2.2.1 x0 f1 c1 p1 h1).2
noncomputable def m_interchangeref2_IsReference (x0 : List UInt8) : Option (Bool) := (sims_G5_0_0.2.2.2.2.2.2.2.2.2.1 x0).1
theorem spec_interchangeref2_IsReference (x0 : List UInt8) : ∀ r, m_interchangeref2_IsReference x0 = some r → PureSpec Tryz.prog 37 [.str x0] (.bool r) := (sims_G5_0_0.2.2.2.2.2.2.2.2.2.1 x0).2
noncomputable def m_interchangeref7_within (x0 : Int) (x1 : Int) (x2 : Int) : Option (Bool) := (sims_G5_0_0.2.2.2.2.2.2.2.2.2.2.1 x0 x1 x2).1
theorem spec_interchangeref7_within (x0 : Int) (x1 : Int) (x2 : Int) : ∀ r, m_interchangeref7_within x0 x1 x2 = some r → PureSpec Tryz.prog 64 [.int .i64 x0, .int .i64 x1, .int .i64 x2] (.bool r) := (sims_G5_0_0.2.2.2.2.2.2.2.2.2.2.1 x0 x1 x2).2
noncomputable def m_interchangeref2_IsName (x0 : List UInt8) : Option (Bool) := (sims_G5_0_0.2.2.2.2.2.2.2.2.2.2.2 x0).1
theorem spec_interchangeref2_IsName (x0 : List UInt8) : ∀ r, m_interchangeref2_IsName x0 = some r → PureSpec Tryz.prog 94 [.str x0] (.bool r) := (sims_G5_0_0.2.2.2.2.2.2.2.2.2.2.2 x0).2

def sc_interchangeref7_together_L1 : SC :=
  (.seq (.seq (.reg [.r 6 (.mv (.t 5)),
     .r 7 (.mv (.t 0)),
     .r 8 (.len (.t 7)),
     .r 9 (.bin .lss (.t 6) (.t 8))])
  (.cond (.t 9)
    .skip
    (.exit 0)))
  (.seq (.block 1 (.seq (.reg (.r 12 (.mv (.t 3)) :: .r 13 (.mv (.t 12)) :: gapp [14, 15, 16, 17, 18] 13 true (.r 14 (.mv (.t 0)) :: .r 15 (.mv (.t 5)) :: .r 16 (.idx 1 (.t 14) (.t 15)) :: .r 17 (.ld1 (.t 16)) :: .r 18 (.bin .eql (.t 17) (.c (.d (.int .i64 1)))) :: []) (.r 19 (.pick (.t 13) (.t 18) (.c (.d (.bool false)))) :: .r 3 (.mv (.t 19)) :: [])))
    (.reg (.r 20 (.mv (.t 4)) :: .r 21 (.mv (.t 20)) :: gapp [22, 23, 24, 25, 26] 21 true (.r 22 (.mv (.t 0)) :: .r 23 (.mv (.t 5)) :: .r 24 (.idx 1 (.t 22) (.t 23)) :: .r 25 (.ld1 (.t 24)) :: .r 26 (.bin .eql (.t 25) (.c (.d (.int .i64 3)))) :: []) (.r 27 (.pick (.t 21) (.t 26) (.c (.d (.bool false)))) :: .r 4 (.mv (.t 27)) :: [])))))
  (.reg [.r 10 (.mv (.t 5)),
     .r 11 (.bin .add (.t 10) (.c (.d (.int .i64 1)))),
     .r 5 (.mv (.t 11))])))
def sc_interchangeref7_together_B1 : SC := .block 0 (.loop sc_interchangeref7_together_L1)
/-- interchange/interchangeref7.together -/
def sc_interchangeref7_together : SC :=
  (.seq (.reg [.r 2 (.mv (.c (.d (.int .i64 0))))])
  (.seq (.reg [.r 3 (.mv (.c (.d (.bool true)))),
     .r 4 (.mv (.c (.d (.bool true))))])
  (.seq (.seq (.reg [.r 5 (.mv (.c (.d (.int .i64 0))))])
  sc_interchangeref7_together_B1)
  (.seq (.seq (.reg [.r 28 (.mv (.t 3))])
  (.cond (.t 28)
    (.seq (.reg [.r 2 (.mv (.c (.d (.int .i64 1))))])
    .ret)
    .skip))
  (.seq (.seq (.reg [.r 29 (.mv (.t 4))])
  (.cond (.t 29)
    (.seq (.reg [.r 2 (.mv (.c (.d (.int .i64 3))))])
    .ret)
    .skip))
  (.seq (.reg [.r 2 (.mv (.c (.d (.int .i64 2))))])
  .ret))))))
theorem fit_interchangeref7_together : fits Tryz.prog 67 Tryz.f67 sc_interchangeref7_together [.t 2] 1 = true := by kernel_rfl

def sc_interchangeref2_SameTexts_L1 : SC :=
  (.seq (.seq (.reg [.r 11 (.mv (.t 5)),
     .r 12 (.mv (.t 0)),
     .r 13 (.len (.t 12)),
     .r 14 (.bin .lss (.t 11) (.t 13))])
  (.cond (.t 14)
    .skip
    (.exit 0)))
  (.seq (.block 1 (.seq (.regD [.r 17 (.mv (.t 0)),
       .r 18 (.mv (.t 5)),
       .r 19 (.idx 1 (.t 17) (.t 18)),
       .r 20 (.ld1 (.t 19)),
       .r 21 (.mv (.t 1)),
       .r 22 (.mv (.t 5)),
       .r 23 (.idx 1 (.t 21) (.t 22)),
       .r 24 (.ld1 (.t 23)),
       .r 25 (.bin .neq (.t 20) (.t 24))])
    (.cond (.t 25)
      (.seq (.reg [.r 4 (.mv (.c (.d (.bool false))))])
      .ret)
      .skip)))
  (.reg [.r 15 (.mv (.t 5)),
     .r 16 (.bin .add (.t 15) (.c (.d (.int .i64 1)))),
     .r 5 (.mv (.t 16))])))
def sc_interchangeref2_SameTexts_B1 : SC := .block 0 (.loop sc_interchangeref2_SameTexts_L1)
/-- interchange/interchangeref2.SameTexts -/
def sc_interchangeref2_SameTexts : SC :=
  (.seq (.reg [.r 4 (.mv (.c (.d (.bool false))))])
  (.seq (.seq (.reg [.r 6 (.mv (.t 0)),
     .r 7 (.len (.t 6)),
     .r 8 (.mv (.t 1)),
     .r 9 (.len (.t 8)),
     .r 10 (.bin .neq (.t 7) (.t 9))])
  (.cond (.t 10)
    (.seq (.reg [.r 4 (.mv (.c (.d (.bool false))))])
    .ret)
    .skip))
  (.seq (.seq (.reg [.r 5 (.mv (.c (.d (.int .i64 0))))])
  sc_interchangeref2_SameTexts_B1)
  (.seq (.reg [.r 4 (.mv (.c (.d (.bool true))))])
  .ret))))
theorem fit_interchangeref2_SameTexts : fits Tryz.prog 41 Tryz.f41 sc_interchangeref2_SameTexts [.t 4] 2 = true := by kernel_rfl

set_option maxRecDepth 100000 in
set_option maxHeartbeats 40000000 in
noncomputable def sims_G5_0_1 : (∀ (x0 : List Int), {m : Option (Int) // ∀ r, m = some r → PureSpec Tryz.prog 67 [.slice (List.map rowI x0)] (.int .i64 r)}) × (∀ (x0 : List (List UInt8)) (x1 : List (List UInt8)), {m : Option (Bool) // ∀ r, m = some r → PureSpec Tryz.prog 41 [.slice (List.map rowS x0), .slice (List.map rowS x1)] (.bool r)}) := by
  refine ⟨?g0, ?g1⟩
  case' g0 => (intro x0; apply Subtype.mk; intro r hm; apply pure_walk Tryz.func67 fit_interchangeref7_together; unfold sc_interchangeref7_together)
  case' g1 => (intro x0 x1; apply Subtype.mk; intro r hm; apply pure_walk Tryz.func41 fit_interchangeref2_SameTexts; unfold sc_interchangeref2_SameTexts)
  all_goals (repeat' (first | with_reducible refine W_seq ?_ | with_reducible refine W_reg ?_ | with_reducible refine W_regD ?_ | with_reducible refine W_block ?_ | with_reducible refine W_skip ?_ | with_reducible refine W_ret ?_ | with_reducible refine W_exit ?_ | with_reducible refine O_nil ?_ | with_reducible refine K_seq ?_ | with_reducible refine K_seqE ?_ | with_reducible refine K_seqR ?_ | with_reducible refine K_block ?_ | with_reducible refine K_blockR ?_ | ((with_reducible apply O_idxr hm); (iterate 2 (simp only [push_cast, seval]; rfl)); (intro _; rfl); intro e hm) | ((with_reducible apply O_r); (simp only [push_cast, seval]; rfl); (first | exact trivial)) | ((with_reducible apply O_and hm); (simp only [push_cast, seval]; rfl); rfl; intro v hm; rotate_left; intro v g hm) | ((with_reducible apply S_condB hm); (simp only [push_cast, seval]; rfl); intro hm; rotate_left; intro hm) | ((with_reducible apply K_endS hm); (focus (simp only [resOf, resL, RV.get, push_cast, seval]; rfl)); (focus ((repeat' (first | rfl)); done))) | ((with_reducible apply K_bool hm); (simp only [push_cast, seval]; rfl)) | ((with_reducible apply K_leave hm); intro r hm) | ((with_reducible apply K_leaveR hm); intro r hm) | ((apply S_loopY (b := 0) (X := sc_interchangeref7_together_B1) (x := sc_interchangeref7_together_L1) rfl (fun (c : SV) (s : Bool × Bool × Int) => st [(0, c), (3, .d (.bool s.1)), (4, .d (.bool s.2.1)), (5, .d (.int .i64 s.2.2))] []) (c := _) (s0 := (_, _, _)) hm); (focus (first | (dsimp only; done))); (with_reducible refine Then.mk ?_ ?_)) | ((apply S_loopY (b := 0) (X := sc_interchangeref2_SameTexts_B1) (x := sc_interchangeref2_SameTexts_L1) rfl (fun (c : SV × SV) (s : Int) => st [(0, c.1), (1, c.2), (5, .d (.int .i64 s))] []) (c := (_, _)) (s0 := _) hm); (focus (first | (dsimp only; done))); (with_reducible refine Then.mk ?_ ?_)) | ((apply K_next (s' := (_, _, _)) hm); (focus (first | (dsimp only; done)))) | ((apply K_brk (s' := (_, _, _)) hm); (focus (first | (dsimp only; done)))) | ((apply K_next (s' := _) hm); (focus (first | (dsimp only; done)))) | ((apply K_brk (s' := _) hm); (focus (first | (dsimp only; done)))) | (((with_reducible apply K_brkR hm); intro r hm)) | (((with_reducible apply LoopB.of); (focus (first | (dsimp only; done))); (focus ((intro _; repeat' (first | with_reducible exact impC_end | with_reducible refine impC_seq ?_)))); (intro s o hm; first | unfold sc_interchangeref7_together_L1 | unfold sc_interchangeref2_SameTexts_L1); rotate_left; intro s hm)) | (((apply imp_stT; (repeat' (first | with_reducible exact keepT_nil | with_reducible exact keepC_nil | with_reducible apply keepT_cons | ((with_reducible apply svle_eq); (focus (first | (simp only [push_cast, seval]; rfl))); (focus ((repeat' (first | rfl)); done))))); done)))))
noncomputable def m_interchangeref7_together (x0 : List Int) : Option (Int) := (sims_G5_0_1.1 x0).1
theorem spec_interchangeref7_together (x0 : List Int) : ∀ r, m_interchangeref7_together x0 = some r → PureSpec Tryz.prog 67 [.slice (List.map rowI x0)] (.int .i64 r) := (sims_G5_0_1.1 x0).2
noncomputable def m_interchangeref2_SameTexts (x0 : List (List UInt8)) (x1 : List (List UInt8)) : Option (Bool) := (sims_G5_0_1.2 x0 x1).1
theorem spec_interchangeref2_SameTexts (x0 : List (List UInt8)) (x1 : List (List UInt8)) : ∀ r, m_interchangeref2_SameTexts x0 x1 = some r → PureSpec Tryz.prog 41 [.slice (List.map rowS x0), .slice (List.map rowS x1)] (.bool r) := (sims_G5_0_1.2 x0 x1).2

/-- interchange/reply.isVerdict -/
def sc_reply_isVerdict : SC :=
  (.seq (.reg [.r 2 (.mv (.c (.d (.bool false))))])
  (.seq (.reg [.r 3 (.mv (.t 0)),
     .c 4 (.f 55) [.t 3, .c (.d (.int .i64 1)), .c (.d (.int .i64 3))],
     .r 5 (.not (.t 4)),
     .r 2 (.mv (.t 5))])
  .ret))
theorem fit_reply_isVerdict : fits Tryz.prog 29 Tryz.f29 sc_reply_isVerdict [.t 2] 1 = true := by kernel_rfl

/-- slices.ContainsFunc[[]interchange/api.GroupReply,interchange/api.GroupReply] -/
def sc_slices_ContainsFunc_interchange_api_GroupReply_interchange_api_GroupReply : SC :=
  (.seq (.reg [.r 4 (.mv (.c (.d (.bool false))))])
  (.seq (.reg [.r 5 (.mv (.t 0)),
     .r 6 (.mv (.t 1)),
     .c 7 (.f 83) [.t 5, .t 6],
     .r 8 (.bin .geq (.t 7) (.c (.d (.int .i64 0)))),
     .r 4 (.mv (.t 8))])
  .ret))
theorem fit_slices_ContainsFunc_interchange_api_GroupReply_interchange_api_GroupReply : fits Tryz.prog 56 Tryz.f56 sc_slices_ContainsFunc_interchange_api_GroupReply_interchange_api_GroupReply [.t 4] 2 = true := by kernel_rfl

/-- slices.ContainsFunc[[]interchange/api.MessageReply,interchange/api.MessageReply] -/
def sc_slices_ContainsFunc_interchange_api_MessageReply_interchange_api_MessageReply : SC :=
  (.seq (.reg [.r 4 (.mv (.c (.d (.bool false))))])
  (.seq (.reg [.r 5 (.mv (.t 0)),
     .r 6 (.mv (.t 1)),
     .c 7 (.f 104) [.t 5, .t 6],
     .r 8 (.bin .geq (.t 7) (.c (.d (.int .i64 0)))),
     .r 4 (.mv (.t 8))])
  .ret))
theorem fit_slices_ContainsFunc_interchange_api_MessageReply_interchange_api_MessageReply : fits Tryz.prog 84 Tryz.f84 sc_slices_ContainsFunc_interchange_api_MessageReply_interchange_api_MessageReply [.t 4] 2 = true := by kernel_rfl

/-- interchange/reply.isFlaw -/
def sc_reply_isFlaw : SC :=
  (.seq (.reg [.r 2 (.mv (.c (.d (.bool false))))])
  (.seq (.reg [.r 3 (.mv (.t 0)),
     .c 4 (.f 55) [.t 3, .c (.d (.int .i64 1)), .c (.d (.int .i64 12))],
     .r 5 (.not (.t 4)),
     .r 2 (.mv (.t 5))])
  .ret))
theorem fit_reply_isFlaw : fits Tryz.prog 105 Tryz.f105 sc_reply_isFlaw [.t 2] 1 = true := by kernel_rfl

/-- interchange/reply.together$1 -/
def sc_reply_together_1 : SC :=
  (.seq (.reg [.r 1 (.boxI (.t 0)),
     .r 2 (.mv (.c (.d (.raw .nilFunc))))])
  (.seq (.reg [.r 3 (.mkfn 89 [.t 1]),
     .r 2 (.mv (.t 3))])
  .ret))
theorem fit_reply_together_1 : fits Tryz.prog 88 Tryz.f88 sc_reply_together_1 [.t 2] 1 = true := by kernel_rfl

/-- slices.ContainsFunc[[]int,int] -/
def sc_slices_ContainsFunc_int_int : SC :=
  (.seq (.reg [.r 4 (.mv (.c (.d (.bool false))))])
  (.seq (.reg [.r 5 (.mv (.t 0)),
     .r 6 (.mv (.t 1)),
     .c 7 (.f 106) [.t 5, .t 6],
     .r 8 (.bin .geq (.t 7) (.c (.d (.int .i64 0)))),
     .r 4 (.mv (.t 8))])
  .ret))
theorem fit_slices_ContainsFunc_int_int : fits Tryz.prog 90 Tryz.f90 sc_slices_ContainsFunc_int_int [.t 4] 2 = true := by kernel_rfl

/-- interchange/interchangeref7.isVerdict -/
def sc_interchangeref7_isVerdict : SC :=
  (.seq (.reg [.r 2 (.mv (.c (.d (.bool false))))])
  (.seq (.reg [.r 3 (.mv (.t 0)),
     .c 4 (.f 64) [.t 3, .c (.d (.int .i64 1)), .c (.d (.int .i64 3))],
     .r 2 (.mv (.t 4))])
  .ret))
theorem fit_interchangeref7_isVerdict : fits Tryz.prog 38 Tryz.f38 sc_interchangeref7_isVerdict [.t 2] 1 = true := by kernel_rfl

def sc_interchangeref7_checkFlaws_L1 : SC :=
  (.seq (.seq (.reg [.r 8 (.mv (.t 3)),
     .r 9 (.mv (.t 0)),
     .r 10 (.len (.t 9)),
     .r 11 (.bin .lss (.t 8) (.t 10))])
  (.cond (.t 11)
    .skip
    (.exit 0)))
  (.seq (.block 1 (.seq (.reg [.r 14 (.mv (.t 0)),
       .r 15 (.mv (.t 3)),
       .r 16 (.idx 6 (.t 14) (.t 15)),
       .o 17 (.ldA 6 (.t 16)),
       .w 4 (.boxM (.c (.agg [.d (.int .i64 0), .d (.int .i64 0), .d (.int .i64 0), .d (.int .i64 0), .d (.int .i64 0), .d (.str [])]))),
       .w 0 (.st 6 (.t 4) (.t 17))])
    (.seq (.seq (.reg [.r 18 (.fld 0 (.t 4)),
       .o 19 (.ld1 (.t 18)),
       .c 20 (.f 64) [.t 19, .c (.d (.int .i64 1)), .c (.d (.int .i64 12))],
       .r 21 (.not (.t 20))])
    (.cond (.t 21)
      (.seq (.reg [.r 2 (.mv (.c (.d (.int .i64 4))))])
      .ret)
      .skip))
    (.seq (.seq (.reg (.r 22 (.fld 1 (.t 4)) :: .o 23 (.ld1 (.t 22)) :: .c 24 (.f 64) [.t 23, .c (.d (.int .i64 0)), .c (.d (.int .i64 2000))] :: .r 25 (.not (.t 24)) :: .r 26 (.mv (.t 25)) :: gapp [27, 28, 29, 30, 31] 26 false (.r 27 (.fld 2 (.t 4)) :: .r 28 (.fld 0 (.t 27)) :: .r 29 (.ld1 (.t 28)) :: .c 30 (.f 64) [.t 29, .c (.d (.int .i64 0)), .c (.d (.int .i64 51))] :: .r 31 (.not (.t 30)) :: []) (.r 32 (.pick (.t 26) (.c (.d (.bool true))) (.t 31)) :: .r 33 (.mv (.t 32)) :: gapp [34, 35, 36, 37, 38] 33 false (.r 34 (.fld 2 (.t 4)) :: .r 35 (.fld 1 (.t 34)) :: .r 36 (.ld1 (.t 35)) :: .c 37 (.f 64) [.t 36, .c (.d (.int .i64 0)), .c (.d (.int .i64 21))] :: .r 38 (.not (.t 37)) :: []) (.r 39 (.pick (.t 33) (.c (.d (.bool true))) (.t 38)) :: .r 40 (.mv (.t 39)) :: gapp [41, 42, 43, 44, 45] 40 false (.r 41 (.fld 2 (.t 4)) :: .r 42 (.fld 2 (.t 41)) :: .r 43 (.ld1 (.t 42)) :: .c 44 (.f 64) [.t 43, .c (.d (.int .i64 0)), .c (.d (.int .i64 21))] :: .r 45 (.not (.t 44)) :: []) (.r 46 (.pick (.t 40) (.c (.d (.bool true))) (.t 45)) :: [])))))
    (.cond (.t 46)
      (.seq (.reg [.r 2 (.mv (.c (.d (.int .i64 1))))])
      .ret)
      .skip))
    (.seq (.seq (.reg (.r 47 (.fld 5 (.t 4)) :: .o 48 (.ld1 (.t 47)) :: .r 49 (.bin .neq (.t 48) (.c (.d (.str [])))) :: .r 50 (.mv (.t 49)) :: gapp [51, 52, 53, 54] 50 true (.r 51 (.fld 5 (.t 4)) :: .r 52 (.ld1 (.t 51)) :: .c 53 (.f 61) [.t 52] :: .r 54 (.not (.t 53)) :: []) (.r 55 (.pick (.t 50) (.t 54) (.c (.d (.bool false)))) :: .r 56 (.mv (.t 55)) :: gapp [57, 58, 59, 60] 56 true (.r 57 (.fld 5 (.t 4)) :: .r 58 (.ld1 (.t 57)) :: .c 59 (.f 94) [.t 58] :: .r 60 (.not (.t 59)) :: []) (.r 61 (.pick (.t 56) (.t 60) (.c (.d (.bool false)))) :: []))))
    (.cond (.t 61)
      (.seq (.reg [.r 2 (.mv (.c (.d (.int .i64 3))))])
      .ret)
      .skip))
    (.seq (.regD (.r 62 (.mv (.t 3)) :: .r 63 (.bin .gtr (.t 62) (.c (.d (.int .i64 0)))) :: .r 64 (.mv (.t 63)) :: gapp [65, 66, 67, 68, 69, 70, 71, 72, 73] 64 true (.r 65 (.fld 1 (.t 4)) :: .r 66 (.ld1 (.t 65)) :: .r 67 (.mv (.t 0)) :: .r 68 (.mv (.t 3)) :: .r 69 (.bin .sub (.t 68) (.c (.d (.int .i64 1)))) :: .r 70 (.idx 6 (.t 67) (.t 69)) :: .r 71 (.fld 1 (.t 70)) :: .r 72 (.ld1 (.t 71)) :: .r 73 (.bin .lss (.t 66) (.t 72)) :: []) (.r 74 (.pick (.t 64) (.t 73) (.c (.d (.bool false)))) :: [])))
    (.cond (.t 74)
      (.seq (.reg [.r 2 (.mv (.c (.d (.int .i64 8))))])
      .ret)
      .skip)))))))
  (.reg [.r 12 (.mv (.t 3)),
     .r 13 (.bin .add (.t 12) (.c (.d (.int .i64 1)))),
     .r 3 (.mv (.t 13))])))
def sc_interchangeref7_checkFlaws_B1 : SC := .block 0 (.loop sc_interchangeref7_checkFlaws_L1)
/-- interchange/interchangeref7.checkFlaws -/
def sc_interchangeref7_checkFlaws : SC :=
  (.seq (.reg [.r 2 (.mv (.c (.d (.int .i64 0))))])
  (.seq (.seq (.reg [.r 5 (.mv (.t 0)),
     .r 6 (.len (.t 5)),
     .r 7 (.bin .gtr (.t 6) (.c (.d (.int .i64 500))))])
  (.cond (.t 7)
    (.seq (.reg [.r 2 (.mv (.c (.d (.int .i64 2))))])
    .ret)
    .skip))
  (.seq (.seq (.reg [.r 3 (.mv (.c (.d (.int .i64 0))))])
  sc_interchangeref7_checkFlaws_B1)
  (.seq (.reg [.r 2 (.mv (.c (.d (.int .i64 0))))])
  .ret))))
theorem fit_interchangeref7_checkFlaws : fits Tryz.prog 93 Tryz.f93 sc_interchangeref7_checkFlaws [.t 2] 1 = true := by kernel_rfl

def sc_interchangeref7_OfGroup_L1 : SC :=
  (.seq (.seq (.reg [.r 5 (.mv (.t 4)),
     .r 6 (.fld 2 (.t 1)),
     .o 7 (.ld1 (.t 6)),
     .r 8 (.len (.t 7)),
     .r 9 (.bin .lss (.t 5) (.t 8))])
  (.cond (.t 9)
    .skip
    (.exit 0)))
  (.seq (.block 1 (.reg [.r 12 (.mv (.t 3)),
       .r 13 (.fld 2 (.t 1)),
       .o 14 (.ld1 (.t 13)),
       .r 15 (.mv (.t 4)),
       .r 16 (.idx 5 (.t 14) (.t 15)),
       .r 17 (.fld 1 (.t 16)),
       .o 18 (.ld1 (.t 17)),
       .r 19 (.bslice 1 [.t 18]),
       .w 20 (.app 3 1 (.t 12) (.t 19)),
       .r 3 (.mv (.t 20))]))
  (.reg [.r 10 (.mv (.t 4)),
     .r 11 (.bin .add (.t 10) (.c (.d (.int .i64 1)))),
     .r 4 (.mv (.t 11))])))
def sc_interchangeref7_OfGroup_B1 : SC := .block 0 (.loop sc_interchangeref7_OfGroup_L1)
/-- interchange/interchangeref7.OfGroup -/
def sc_interchangeref7_OfGroup : SC :=
  (.seq (.reg [.r 1 (.boxI (.t 0)),
     .r 2 (.mv (.c (.d (.int .i64 0))))])
  (.seq (.reg [.r 3 (.mv (.c (.nils)))])
  (.seq (.seq (.reg [.r 4 (.mv (.c (.d (.int .i64 0))))])
  sc_interchangeref7_OfGroup_B1)
  (.seq (.reg [.r 21 (.mv (.t 3)),
     .c 22 (.f 67) [.t 21],
     .r 2 (.mv (.t 22))])
  .ret))))
theorem fit_interchangeref7_OfGroup : fits Tryz.prog 66 Tryz.f66 sc_interchangeref7_OfGroup [.t 2] 1 = true := by kernel_rfl

def sc_interchangeref7_OfAll_L1 : SC :=
  (.seq (.seq (.reg [.r 5 (.mv (.t 4)),
     .r 6 (.fld 2 (.t 1)),
     .o 7 (.ld1 (.t 6)),
     .r 8 (.len (.t 7)),
     .r 9 (.bin .lss (.t 5) (.t 8))])
  (.cond (.t 9)
    .skip
    (.exit 0)))
  (.seq (.block 1 (.reg [.r 12 (.mv (.t 3)),
       .r 13 (.fld 2 (.t 1)),
       .o 14 (.ld1 (.t 13)),
       .r 15 (.mv (.t 4)),
       .r 16 (.idx 3 (.t 14) (.t 15)),
       .r 17 (.fld 1 (.t 16)),
       .o 18 (.ld1 (.t 17)),
       .r 19 (.bslice 1 [.t 18]),
       .w 20 (.app 3 1 (.t 12) (.t 19)),
       .r 3 (.mv (.t 20))]))
  (.reg [.r 10 (.mv (.t 4)),
     .r 11 (.bin .add (.t 10) (.c (.d (.int .i64 1)))),
     .r 4 (.mv (.t 11))])))
def sc_interchangeref7_OfAll_B1 : SC := .block 0 (.loop sc_interchangeref7_OfAll_L1)
/-- interchange/interchangeref7.OfAll -/
def sc_interchangeref7_OfAll : SC :=
  (.seq (.reg [.r 1 (.boxI (.t 0)),
     .r 2 (.mv (.c (.d (.int .i64 0))))])
  (.seq (.reg [.r 3 (.mv (.c (.nils)))])
  (.seq (.seq (.reg [.r 4 (.mv (.c (.d (.int .i64 0))))])
  sc_interchangeref7_OfAll_B1)
  (.seq (.reg [.r 21 (.mv (.t 3)),
     .c 22 (.f 67) [.t 21],
     .r 2 (.mv (.t 22))])
  .ret))))
theorem fit_interchangeref7_OfAll : fits Tryz.prog 40 Tryz.f40 sc_interchangeref7_OfAll [.t 2] 1 = true := by kernel_rfl

def sc_interchangeref7_sameMessage_L1 : SC :=
  (.seq (.seq (.reg [.r 42 (.mv (.t 5)),
     .r 43 (.fld 3 (.t 2)),
     .o 44 (.ld1 (.t 43)),
     .r 45 (.len (.t 44)),
     .r 46 (.bin .lss (.t 42) (.t 45))])
  (.cond (.t 46)
    .skip
    (.exit 0)))
  (.seq (.block 1 (.seq (.regD [.r 49 (.fld 3 (.t 2)),
       .r 50 (.ld1 (.t 49)),
       .r 51 (.mv (.t 5)),
       .r 52 (.idx 6 (.t 50) (.t 51)),
       .r 53 (.ldA 6 (.t 52)),
       .r 54 (.fld 3 (.t 3)),
       .r 55 (.ld1 (.t 54)),
       .r 56 (.mv (.t 5)),
       .r 57 (.idx 6 (.t 55) (.t 56)),
       .r 58 (.ldA 6 (.t 57)),
       .r 59 (.eqs .neq [(.int .i64), (.int .i64), (.int .i64), (.int .i64), (.int .i64), .str] (.t 53) (.t 58))])
    (.cond (.t 59)
      (.seq (.reg [.r 4 (.mv (.c (.d (.bool false))))])
      .ret)
      .skip)))
  (.reg [.r 47 (.mv (.t 5)),
     .r 48 (.bin .add (.t 47) (.c (.d (.int .i64 1)))),
     .r 5 (.mv (.t 48))])))
def sc_interchangeref7_sameMessage_B1 : SC := .block 0 (.loop sc_interchangeref7_sameMessage_L1)
/-- interchange/interchangeref7.sameMessage -/
def sc_interchangeref7_sameMessage : SC :=
  (.seq (.reg [.r 2 (.boxI (.t 0)),
     .r 3 (.boxI (.t 1)),
     .r 4 (.mv (.c (.d (.bool false))))])
  (.seq (.seq (.reg (.r 6 (.fld 0 (.t 2)) :: .o 7 (.ld1 (.t 6)) :: .r 8 (.fld 0 (.t 3)) :: .o 9 (.ld1 (.t 8)) :: .r 10 (.bin .neq (.t 7) (.t 9)) :: .r 11 (.mv (.t 10)) :: gapp [12, 13, 14, 15, 16] 11 false (.r 12 (.fld 1 (.t 2)) :: .r 13 (.ld1 (.t 12)) :: .r 14 (.fld 1 (.t 3)) :: .r 15 (.ld1 (.t 14)) :: .r 16 (.bin .neq (.t 13) (.t 15)) :: []) (.r 17 (.pick (.t 11) (.c (.d (.bool true))) (.t 16)) :: .r 18 (.mv (.t 17)) :: gapp [19, 20, 21, 22, 23] 18 false (.r 19 (.fld 2 (.t 2)) :: .r 20 (.ld1 (.t 19)) :: .r 21 (.fld 2 (.t 3)) :: .r 22 (.ld1 (.t 21)) :: .r 23 (.binB .neq (.t 20) (.t 22)) :: []) (.r 24 (.pick (.t 18) (.c (.d (.bool true))) (.t 23)) :: .r 25 (.mv (.t 24)) :: gapp [26, 27, 28, 29, 30, 31, 32] 25 false (.r 26 (.fld 3 (.t 2)) :: .r 27 (.ld1 (.t 26)) :: .r 28 (.len (.t 27)) :: .r 29 (.fld 3 (.t 3)) :: .r 30 (.ld1 (.t 29)) :: .r 31 (.len (.t 30)) :: .r 32 (.bin .neq (.t 28) (.t 31)) :: []) (.r 33 (.pick (.t 25) (.c (.d (.bool true))) (.t 32)) :: .r 34 (.mv (.t 33)) :: gapp [35, 36, 37, 38, 39, 40] 34 false (.r 35 (.fld 4 (.t 2)) :: .r 36 (.ld1 (.t 35)) :: .r 37 (.fld 4 (.t 3)) :: .r 38 (.ld1 (.t 37)) :: .c 39 (.f 41) [.t 36, .t 38] :: .r 40 (.not (.t 39)) :: []) (.r 41 (.pick (.t 34) (.c (.d (.bool true))) (.t 40)) :: []))))))
  (.cond (.t 41)
    (.seq (.reg [.r 4 (.mv (.c (.d (.bool false))))])
    .ret)
    .skip))
  (.seq (.seq (.reg [.r 5 (.mv (.c (.d (.int .i64 0))))])
  sc_interchangeref7_sameMessage_B1)
  (.seq (.reg [.r 4 (.mv (.c (.d (.bool true))))])
  .ret))))
theorem fit_interchangeref7_sameMessage : fits Tryz.prog 17 Tryz.f17 sc_interchangeref7_sameMessage [.t 4] 2 = true := by kernel_rfl

def sc_interchangeref2_SameSegment_L1 : SC :=
  (.seq (.seq (.reg [.r 47 (.mv (.t 8)),
     .r 48 (.mv (.t 6)),
     .r 49 (.len (.t 48)),
     .r 50 (.bin .lss (.t 47) (.t 49))])
  (.cond (.t 50)
    .skip
    (.exit 2)))
  (.seq (.block 3 (.seq (.regD [.r 53 (.mv (.t 6)),
       .r 54 (.mv (.t 8)),
       .r 55 (.idx 1 (.t 53) (.t 54)),
       .r 56 (.ld1 (.t 55)),
       .r 57 (.mv (.t 7)),
       .r 58 (.mv (.t 8)),
       .r 59 (.idx 1 (.t 57) (.t 58)),
       .r 60 (.ld1 (.t 59)),
       .c 61 (.f 41) [.t 56, .t 60],
       .r 62 (.not (.t 61))])
    (.cond (.t 62)
      (.seq (.reg [.r 4 (.mv (.c (.d (.bool false))))])
      .ret)
      .skip)))
  (.reg [.r 51 (.mv (.t 8)),
     .r 52 (.bin .add (.t 51) (.c (.d (.int .i64 1)))),
     .r 8 (.mv (.t 52))])))
def sc_interchangeref2_SameSegment_B1 : SC := .block 2 (.loop sc_interchangeref2_SameSegment_L1)
def sc_interchangeref2_SameSegment_L2 : SC :=
  (.seq (.seq (.reg [.r 23 (.mv (.t 5)),
     .r 24 (.fld 1 (.t 2)),
     .o 25 (.ld1 (.t 24)),
     .r 26 (.len (.t 25)),
     .r 27 (.bin .lss (.t 23) (.t 26))])
  (.cond (.t 27)
    .skip
    (.exit 0)))
  (.seq (.block 1 (.seq (.regD [.r 30 (.fld 1 (.t 2)),
       .r 31 (.ld1 (.t 30)),
       .r 32 (.mv (.t 5)),
       .r 33 (.idx 1 (.t 31) (.t 32)),
       .r 34 (.fld 0 (.t 33)),
       .r 35 (.ld1 (.t 34)),
       .r 36 (.fld 1 (.t 3)),
       .r 37 (.ld1 (.t 36)),
       .r 38 (.mv (.t 5)),
       .r 39 (.idx 1 (.t 37) (.t 38)),
       .r 40 (.fld 0 (.t 39)),
       .r 41 (.ld1 (.t 40)),
       .r 6 (.mv (.t 35)),
       .r 7 (.mv (.t 41))])
    (.seq (.seq (.reg [.r 42 (.mv (.t 6)),
       .r 43 (.len (.t 42)),
       .r 44 (.mv (.t 7)),
       .r 45 (.len (.t 44)),
       .r 46 (.bin .neq (.t 43) (.t 45))])
    (.cond (.t 46)
      (.seq (.reg [.r 4 (.mv (.c (.d (.bool false))))])
      .ret)
      .skip))
    (.seq (.reg [.r 8 (.mv (.c (.d (.int .i64 0))))])
    sc_interchangeref2_SameSegment_B1))))
  (.reg [.r 28 (.mv (.t 5)),
     .r 29 (.bin .add (.t 28) (.c (.d (.int .i64 1)))),
     .r 5 (.mv (.t 29))])))
def sc_interchangeref2_SameSegment_B2 : SC := .block 0 (.loop sc_interchangeref2_SameSegment_L2)
/-- interchange/interchangeref2.SameSegment -/
def sc_interchangeref2_SameSegment : SC :=
  (.seq (.reg [.r 2 (.boxI (.t 0)),
     .r 3 (.boxI (.t 1)),
     .r 4 (.mv (.c (.d (.bool false))))])
  (.seq (.seq (.reg (.r 9 (.fld 0 (.t 2)) :: .o 10 (.ld1 (.t 9)) :: .r 11 (.fld 0 (.t 3)) :: .o 12 (.ld1 (.t 11)) :: .r 13 (.bin .neq (.t 10) (.t 12)) :: .r 14 (.mv (.t 13)) :: gapp [15, 16, 17, 18, 19, 20, 21] 14 false (.r 15 (.fld 1 (.t 2)) :: .r 16 (.ld1 (.t 15)) :: .r 17 (.len (.t 16)) :: .r 18 (.fld 1 (.t 3)) :: .r 19 (.ld1 (.t 18)) :: .r 20 (.len (.t 19)) :: .r 21 (.bin .neq (.t 17) (.t 20)) :: []) (.r 22 (.pick (.t 14) (.c (.d (.bool true))) (.t 21)) :: [])))
  (.cond (.t 22)
    (.seq (.reg [.r 4 (.mv (.c (.d (.bool false))))])
    .ret)
    .skip))
  (.seq (.seq (.reg [.r 5 (.mv (.c (.d (.int .i64 0))))])
  sc_interchangeref2_SameSegment_B2)
  (.seq (.reg [.r 4 (.mv (.c (.d (.bool true))))])
  .ret))))
theorem fit_interchangeref2_SameSegment : fits Tryz.prog 20 Tryz.f20 sc_interchangeref2_SameSegment [.t 4] 2 = true := by kernel_rfl

set_option maxRecDepth 100000 in
set_option maxHeartbeats 40000000 in
noncomputable def sims_G5_1_0 : (∀ (x0 : Int), {m : Option (Bool) // ∀ r, m = some r → PureSpec Tryz.prog 29 [.int .i64 x0] (.bool r)}) × (∀ (x0 : List Tapi_GroupReply) (f1 : FuncId) (c1 : List DV) (p1 : Tapi_GroupReply → Option (Bool)) (h1 : ∀ a0 r, p1 a0 = some r → PureSpec Tryz.prog f1 ([.agg (rTapi_GroupReply a0)] ++ c1) (.bool r)), {m : Option (Bool) // ∀ r, m = some r → PureSpec Tryz.prog 56 [.slice (List.map rTapi_GroupReply x0), .fn f1 c1] (.bool r)}) × (∀ (x0 : List Tapi_MessageReply) (f1 : FuncId) (c1 : List DV) (p1 : Tapi_MessageReply → Option (Bool)) (h1 : ∀ a0 r, p1 a0 = some r → PureSpec Tryz.prog f1 ([.agg (rTapi_MessageReply a0)] ++ c1) (.bool r)), {m : Option (Bool) // ∀ r, m = some r → PureSpec Tryz.prog 84 [.slice (List.map rTapi_MessageReply x0), .fn f1 c1] (.bool r)}) × (∀ (x0 : Int), {m : Option (Bool) // ∀ r, m = some r → PureSpec Tryz.prog 105 [.int .i64 x0] (.bool r)}) × (∀ (x0 : Int), {m : Option (Int) // ∀ r, m = some r → PureSpec Tryz.prog 88 [.int .i64 x0] (.fn 89 [.ptr (rowI r)])}) × (∀ (x0 : List Int) (f1 : FuncId) (c1 : List DV) (p1 : Int → Option (Bool)) (h1 : ∀ a0 r, p1 a0 = some r → PureSpec Tryz.prog f1 ([.int .i64 a0] ++ c1) (.bool r)), {m : Option (Bool) // ∀ r, m = some r → PureSpec Tryz.prog 90 [.slice (List.map rowI x0), .fn f1 c1] (.bool r)}) × (∀ (x0 : Int), {m : Option (Bool) // ∀ r, m = some r → PureSpec Tryz.prog 38 [.int .i64 x0] (.bool r)}) × (∀ (x0 : List Tapi_Flaw), {m : Option (Int) // ∀ r, m = some r → PureSpec Tryz.prog 93 [.slice (List.map rTapi_Flaw x0)] (.int .i64 r)}) × (∀ (x0 : Tapi_GroupReply), {m : Option (Int) // ∀ r, m = some r → PureSpec Tryz.prog 66 [.agg (rTapi_GroupReply x0)] (.int .i64 r)}) × (∀ (x0 : Tapi_Reply), {m : Option (Int) // ∀ r, m = some r → PureSpec Tryz.prog 40 [.agg (rTapi_Reply x0)] (.int .i64 r)}) × (∀ (x0 : Tapi_MessageReply) (x1 : Tapi_MessageReply), {m : Option (Bool) // ∀ r, m = some r → PureSpec Tryz.prog 17 [.agg (rTapi_MessageReply x0), .agg (rTapi_MessageReply x1)] (.bool r)}) × (∀ (x0 : Tapi_Segment) (x1 : Tapi_Segment), {m : Option (Bool) // ∀ r, m = some r → PureSpec Tryz.prog 20 [.agg (rTapi_Segment x0), .agg (rTapi_Segment x1)] (.bool r)}) := by
  refine ⟨?g0, ?g1, ?g2, ?g3, ?g4, ?g5, ?g6, ?g7, ?g8, ?g9, ?g10, ?g11⟩
  case' g0 => (intro x0; apply Subtype.mk; intro r hm; apply pure_walk Tryz.func29 fit_reply_isVerdict; unfold sc_reply_isVerdict)
  case' g1 => (intro x0 f1 c1 p1 h1; apply Subtype.mk; intro r hm; apply pure_walk Tryz.func56 fit_slices_ContainsFunc_interchange_api_GroupReply_interchange_api_GroupReply; unfold sc_slices_ContainsFunc_interchange_api_GroupReply_interchange_api_GroupReply)
  case' g2 => (intro x0 f1 c1 p1 h1; apply Subtype.mk; intro r hm; apply pure_walk Tryz.func84 fit_slices_ContainsFunc_interchange_api_MessageReply_interchange_api_MessageReply; unfold sc_slices_ContainsFunc_interchange_api_MessageReply_interchange_api_MessageReply)
  case' g3 => (intro x0; apply Subtype.mk; intro r hm; apply pure_walk Tryz.func105 fit_reply_isFlaw; unfold sc_reply_isFlaw)
  case' g4 => (intro x0; apply Subtype.mk; intro r hm; apply pure_walk Tryz.func88 fit_reply_together_1; unfold sc_reply_together_1)
  case' g5 => (intro x0 f1 c1 p1 h1; apply Subtype.mk; intro r hm; apply pure_walk Tryz.func90 fit_slices_ContainsFunc_int_int; unfold sc_slices_ContainsFunc_int_int)
  case' g6 => (intro x0; apply Subtype.mk; intro r hm; apply pure_walk Tryz.func38 fit_interchangeref7_isVerdict; unfold sc_interchangeref7_isVerdict)
  case' g7 => (intro x0; apply Subtype.mk; intro r hm; apply pure_walk Tryz.func93 fit_interchangeref7_checkFlaws; unfold sc_interchangeref7_checkFlaws)
  case' g8 => (intro x0; apply Subtype.mk; intro r hm; apply pure_walk Tryz.func66 fit_interchangeref7_OfGroup; unfold sc_interchangeref7_OfGroup)
  case' g9 => (intro x0; apply Subtype.mk; intro r hm; apply pure_walk Tryz.func40 fit_interchangeref7_OfAll; unfold sc_interchangeref7_OfAll)
  case' g10 => (intro x0 x1; apply Subtype.mk; intro r hm; apply pure_walk Tryz.func17 fit_interchangeref7_sameMessage; unfold sc_interchangeref7_sameMessage)
  case' g11 => (intro x0 x1; apply Subtype.mk; intro r hm; apply pure_walk Tryz.func20 fit_interchangeref2_SameSegment; unfold sc_interchangeref2_SameSegment)
  all_goals (repeat' (first | with_reducible refine W_seq ?_ | with_reducible refine W_reg ?_ | with_reducible refine W_regD ?_ | with_reducible refine W_block ?_ | with_reducible refine W_skip ?_ | with_reducible refine W_ret ?_ | with_reducible refine W_exit ?_ | with_reducible refine O_nil ?_ | with_reducible refine K_seq ?_ | with_reducible refine K_seqE ?_ | with_reducible refine K_seqR ?_ | with_reducible refine K_block ?_ | with_reducible refine K_blockR ?_ | with_reducible refine O_o2r ?_ | ((with_reducible apply O_idxr hm); (iterate 2 (simp only [push_cast, seval]; rfl)); (intro _; rfl); intro e hm) | ((with_reducible apply O_r); (simp only [push_cast, seval]; rfl); (first | exact trivial)) | ((with_reducible apply O_and hm); (simp only [push_cast, seval]; rfl); rfl; intro v hm; rotate_left; intro v g hm) | ((with_reducible apply O_or hm); (simp only [push_cast, seval]; rfl); rfl; intro v hm; rotate_left; intro v g hm) | ((with_reducible apply O_cF hm); (simp only [push_cast, seval]; rfl); (first | apply spec_kit_Outside _ _ _ | apply spec_slices_IndexFunc_interchange_api_GroupReply_interchange_api_GroupReply _ _ _ _ h1 | apply spec_slices_IndexFunc_interchange_api_MessageReply_interchange_api_MessageReply _ _ _ _ h1 | apply spec_slices_IndexFunc_int_int _ _ _ _ h1 | apply spec_interchangeref7_within _ _ _ | apply spec_interchangeref2_IsTag _ | apply spec_interchangeref2_IsName _ | apply spec_interchangeref2_SameTexts _ _); (any_goals ((repeat' (first | rfl)); done)); intro x hm) | ((with_reducible apply O_clS hm); (simp only [push_cast, seval]; rfl); (focus (first | exact spec_interchangeref7_together _)); (intro _; rfl); intro x hm) | ((with_reducible apply O_w); (simp only [push_cast, seval]; rfl); (first | exact trivial)) | ((with_reducible apply O_appV hm); (iterate 4 (simp only [push_cast, seval]; rfl)); (focus ((repeat' (first | rfl | (with_reducible first | apply dv_slice | apply fold_nil | apply fold_cons))); done)); decide; (intro _; rfl); intro hm) | ((with_reducible apply S_condB hm); (simp only [push_cast, seval]; rfl); intro hm; rotate_left; intro hm) | ((with_reducible apply K_endS hm); (focus (simp only [resOf, resL, RV.get, push_cast, seval]; rfl)); (focus ((repeat' (first | rfl)); done))) | ((with_reducible apply K_bool hm); (simp only [push_cast, seval]; rfl)) | ((with_reducible apply K_leave hm); intro r hm) | ((with_reducible apply K_leaveR hm); intro r hm) | ((apply S_loopY (b := 0) (X := sc_interchangeref7_checkFlaws_B1) (x := sc_interchangeref7_checkFlaws_L1) rfl (fun (c : SV) (s : Int) => st [(0, c), (3, .d (.int .i64 s))] []) (c := _) (s0 := _) hm); (focus (first | (dsimp only; done))); (with_reducible refine Then.mk ?_ ?_)) | ((apply S_loopY (b := 0) (X := sc_interchangeref7_OfGroup_B1) (x := sc_interchangeref7_OfGroup_L1) rfl (fun (c : SV) (s : (List Int) × Int) => st [(1, c), (3, .vec 3), (4, .d (.int .i64 s.2))] [(3, .vec 3 1 (vrow rowI s.1))]) (c := _) (s0 := (_, _)) hm); (focus (first | (dsimp only; done))); (with_reducible refine Then.mk ?_ ?_); apply Imp.trans; (focus (apply imp_vecnil (slot := 3) (id := 3) (e := 3) (sz := 1); (focus (simp only [push_cast, seval]; done))))) | ((apply S_loopY (b := 0) (X := sc_interchangeref7_OfAll_B1) (x := sc_interchangeref7_OfAll_L1) rfl (fun (c : SV) (s : (List Int) × Int) => st [(1, c), (3, .vec 3), (4, .d (.int .i64 s.2))] [(3, .vec 3 1 (vrow rowI s.1))]) (c := _) (s0 := (_, _)) hm); (focus (first | (dsimp only; done))); (with_reducible refine Then.mk ?_ ?_); apply Imp.trans; (focus (apply imp_vecnil (slot := 3) (id := 3) (e := 3) (sz := 1); (focus (simp only [push_cast, seval]; done))))) | ((apply S_loopY (b := 0) (X := sc_interchangeref7_sameMessage_B1) (x := sc_interchangeref7_sameMessage_L1) rfl (fun (c : SV × SV) (s : Int) => st [(2, c.1), (3, c.2), (5, .d (.int .i64 s))] []) (c := (_, _)) (s0 := _) hm); (focus (first | (dsimp only; done))); (with_reducible refine Then.mk ?_ ?_)) | ((apply S_loopY (b := 2) (X := sc_interchangeref2_SameSegment_B1) (x := sc_interchangeref2_SameSegment_L1) rfl (fun (c : SV × SV × SV × SV × SV) (s : Int) => st [(2, c.1), (3, c.2.1), (5, c.2.2.1), (6, c.2.2.2.1), (7, c.2.2.2.2), (8, .d (.int .i64 s))] []) (c := (_, _, _, _, _)) (s0 := _) hm); (focus (first | (dsimp only; done))); (with_reducible refine Then.mk ?_ ?_)) | ((apply S_loopY (b := 0) (X := sc_interchangeref2_SameSegment_B2) (x := sc_interchangeref2_SameSegment_L2) rfl (fun (c : SV × SV) (s : Int) => st [(2, c.1), (3, c.2), (5, .d (.int .i64 s))] []) (c := (_, _)) (s0 := _) hm); (focus (first | (dsimp only; done))); (with_reducible refine Then.mk ?_ ?_)) | ((apply K_next (s' := (_, _)) hm); (focus (first | (dsimp only; done)))) | ((apply K_brk (s' := (_, _)) hm); (focus (first | (dsimp only; done)))) | ((apply K_next (s' := _) hm); (focus (first | (dsimp only; done)))) | ((apply K_brk (s' := _) hm); (focus (first | (dsimp only; done)))) | (((with_reducible apply K_brkR hm); intro r hm)) | (((with_reducible apply LoopB.of); (focus (first | (dsimp only; done))); (focus ((intro _; repeat' (first | with_reducible exact impC_end | with_reducible refine impC_seq ?_ | with_reducible refine impC_block ?_ | ((with_reducible refine impC_rnd ?_); intro _) | ((with_reducible refine impC_brk ?_); intro _))))); (intro s o hm; first | unfold sc_interchangeref7_checkFlaws_L1 | unfold sc_interchangeref7_OfGroup_L1 | unfold sc_interchangeref7_OfAll_L1 | unfold sc_interchangeref7_sameMessage_L1 | unfold sc_interchangeref2_SameSegment_L1 | unfold sc_interchangeref2_SameSegment_L2); rotate_left; intro s hm)) | (((apply imp_stT; (repeat' (first | with_reducible exact keepT_nil | with_reducible exact keepC_nil | with_reducible apply keepT_cons | with_reducible apply keepC_cons | ((with_reducible apply svle_eq); (focus (first | (simp only [push_cast, seval]; rfl))); (focus ((repeat' (first | rfl)); done))) | ((with_reducible apply chle_eq); (focus (first | (simp only [push_cast, seval]; rfl))); (first | with_reducible exact chle_rfl rfl | with_reducible apply chle_vec)) | (with_reducible first | apply r_nil))); done)))))
noncomputable def m_reply_isVerdict (x0 : Int) : Option (Bool) := (sims_G5_1_0.1 x0).1
theorem spec_reply_isVerdict (x0 : Int) : ∀ r, m_reply_isVerdict x0 = some r → PureSpec Tryz.prog 29 [.int .i64 x0] (.bool r) := (sims_G5_1_0.1 x0).2
noncomputable def m_slices_ContainsFunc_interchange_api_GroupReply_interchange_api_GroupReply (x0 : List Tapi_GroupReply) (f1 : FuncId) (c1 : List DV) (p1 : Tapi_GroupReply → Option (Bool)) (h1 : ∀ a0 r, p1 a0 = some r → PureSpec Tryz.prog f1 ([.agg (rTapi_GroupReply a0)] ++ c1) (.bool r)) : Option (Bool) := (sims_G5_1_0.2.1 x0 f1 c1 p1 h1).1
theorem spec_slices_ContainsFunc_interchange_api_GroupReply_interchange_api_GroupReply (x0 : List Tapi_GroupReply) (f1 : FuncId) (c1 : List DV) (p1 : Tapi_GroupReply → Option (Bool)) (h1 : ∀ a0 r, p1 a0 = some r → PureSpec Tryz.prog f1 ([.agg (rTapi_GroupReply a0)] ++ c1) (.bool r)) : ∀ r, m_slices_ContainsFunc_interchange_api_GroupReply_interchange_api_GroupReply x0 f1 c1 p1 h1 = some r → PureSpec Tryz.prog 56 [.slice (List.map rTapi_GroupReply x0), .fn f1 c1] (.bool r) := (sims_G5_1_0.2.1 x0 f1 c1 p1 h1).2
noncomputable def m_slices_ContainsFunc_interchange_api_MessageReply_interchange_api_MessageReply (x0 : List Tapi_MessageReply) (f1 : FuncId) (c1 : List DV) (p1 : Tapi_MessageReply → Option (Bool)) (h1 : ∀ a0 r, p1 a0 = some r → PureSpec Tryz.prog f1 ([.agg (rTapi_MessageReply a0)] ++ c1) (.bool r)) : Option (Bool) := (sims_G5_1_0.2.2.1 x0 f1 c1 p1 h1).1
theorem spec_slices_ContainsFunc_interchange_api_MessageReply_interchange_api_MessageReply (x0 : List Tapi_MessageReply) (f1 : FuncId) (c1 : List DV) (p1 : Tapi_MessageReply → Option (Bool)) (h1 : ∀ a0 r, p1 a0 = some r → PureSpec Tryz.prog f1 ([.agg (rTapi_MessageReply a0)] ++ c1) (.bool r)) : ∀ r, m_slices_ContainsFunc_interchange_api_MessageReply_interchange_api_MessageReply x0 f1 c1 p1 h1 = some r → PureSpec Tryz.prog 84 [.slice (List.map rTapi_MessageReply x0), .fn f1 c1] (.bool r) := (sims_G5_1_0.2.2.1 x0 f1 c1 p1 h1).2
noncomputable def m_reply_isFlaw (x0 : Int) : Option (Bool) := (sims_G5_1_0.2.2.2.1 x0).1
theorem spec_reply_isFlaw (x0 : Int) : ∀ r, m_reply_isFlaw x0 = some r → PureSpec Tryz.prog 105 [.int .i64 x0] (.bool r) := (sims_G5_1_0.2.2.2.1 x0).2
noncomputable def m_reply_together_1 (x0 : Int) : Option (Int) := (sims_G5_1_0.2.2.2.2.1 x0).1
theorem spec_reply_together_1 (x0 : Int) : ∀ r, m_reply_together_1 x0 = some r → PureSpec Tryz.prog 88 [.int .i64 x0] (.fn 89 [.ptr (rowI r)]) := (sims_G5_1_0.2.2.2.2.1 x0).2
noncomputable def m_slices_ContainsFunc_int_int (x0 : List Int) (f1 : FuncId) (c1 : List DV) (p1 : Int → Option (Bool)) (h1 : ∀ a0 r, p1 a0 = some r → PureSpec Tryz.prog f1 ([.int .i64 a0] ++ c1) (.bool r)) : Option (Bool) := (sims_G5_1_0.2.2.2.2.2.1 x0 f1 c1 p1 h1).1
theorem spec_slices_ContainsFunc_int_int (x0 : List Int) (f1 : FuncId) (c1 : List DV) (p1 : Int → Option (Bool)) (h1 : ∀ a0 r, p1 a0 = some r → PureSpec Tryz.prog f1 ([.int .i64 a0] ++ c1) (.bool r)) : ∀ r, m_slices_ContainsFunc_int_int x0 f1 c1 p1 h1 = some r → PureSpec Tryz.prog 90 [.slice (List.map rowI x0), .fn f1 c1] (.bool r) := (sims_G5_1_0.2.2.2.2.2.1 x0 f1 c1 p1 h1).2
noncomputable def m_interchangeref7_isVerdict (x0 : Int) : Option (Bool) := (sims_G5_1_0.2.2.2.2.2.2.1 x0).1
theorem spec_interchangeref7_isVerdict (x0 : Int) : ∀ r, m_interchangeref7_isVerdict x0 = some r → PureSpec Tryz.prog 38 [.int .i64 x0] (.bool r) := (sims_G5_1_0.2.2.2.2.2.2.1 x0).2
noncomputable def m_interchangeref7_checkFlaws (x0 : List Tapi_Flaw) : Option (Int) := (sims_G5_1_0.2.2.2.2.2.2.2.1 x0).1
theorem spec_interchangeref7_checkFlaws (x0 : List Tapi_Flaw) : ∀ r, m_interchangeref7_checkFlaws x0 = some r → PureSpec Tryz.prog 93 [.slice (List.map rTapi_Flaw x0)] (.int .i64 r) := (sims_G5_1_0.2.2.2.2.2.2.2.1 x0).2
noncomputable def m_interchangeref7_OfGroup (x0 : Tapi_GroupReply) : Option (Int) := (sims_G5_1_0.2.2.2.2.2.2.2.2.1 x0).1
theorem spec_interchangeref7_OfGroup (x0 : Tapi_GroupReply) : ∀ r, m_interchangeref7_OfGroup x0 = some r → PureSpec Tryz.prog 66 [.agg (rTapi_GroupReply x0)] (.int .i64 r) := (sims_G5_1_0.2.2.2.2.2.2.2.2.1 x0).2
noncomputable def m_interchangeref7_OfAll (x0 : Tapi_Reply) : Option (Int) := (sims_G5_1_0.2.2.2.2.2.2.2.2.2.1 x0).1
theorem spec_interchangeref7_OfAll (x0 : Tapi_Reply) : ∀ r, m_interchangeref7_OfAll x0 = some r → PureSpec Tryz.prog 40 [.agg (rTapi_Reply x0)] (.int .i64 r) := (sims_G5_1_0.2.2.2.2.2.2.2.2.2.1 x0).2
noncomputable def m_interchangeref7_sameMessage (x0 : Tapi_MessageReply) (x1 : Tapi_MessageReply) : Option (Bool) := (sims_G5_1_0.2.2.2.2.2.2.2.2.2.2.1 x0 x1).1
theorem spec_interchangeref7_sameMessage (x0 : Tapi_MessageReply) (x1 : Tapi_MessageReply) : ∀ r, m_interchangeref7_sameMessage x0 x1 = some r → PureSpec Tryz.prog 17 [.agg (rTapi_MessageReply x0), .agg (rTapi_MessageReply x1)] (.bool r) := (sims_G5_1_0.2.2.2.2.2.2.2.2.2.2.1 x0 x1).2
noncomputable def m_interchangeref2_SameSegment (x0 : Tapi_Segment) (x1 : Tapi_Segment) : Option (Bool) := (sims_G5_1_0.2.2.2.2.2.2.2.2.2.2.2 x0 x1).1
theorem spec_interchangeref2_SameSegment (x0 : Tapi_Segment) (x1 : Tapi_Segment) : ∀ r, m_interchangeref2_SameSegment x0 x1 = some r → PureSpec Tryz.prog 20 [.agg (rTapi_Segment x0), .agg (rTapi_Segment x1)] (.bool r) := (sims_G5_1_0.2.2.2.2.2.2.2.2.2.2.2 x0 x1).2

def sc_reply_flawsFault_L1 : SC :=
  (.seq (.reg [.r 11 (.bin .lss (.t 10) (.t 9))])
  (.seq (.cond (.t 11)
    .skip
    (.exit 0))
  (.seq (.block 1 (.seq (.reg [.r 12 (.mv (.t 10)),
       .r 13 (.idx 6 (.t 8) (.t 10)),
       .o 14 (.ldA 6 (.t 13)),
       .w 4 (.boxM (.c (.agg [.d (.int .i64 0), .d (.int .i64 0), .d (.int .i64 0), .d (.int .i64 0), .d (.int .i64 0), .d (.str [])]))),
       .r 3 (.mv (.t 12)),
       .w 0 (.st 6 (.t 4) (.t 14))])
    (.block 2 (.seq (.reg [.r 16 (.fld 0 (.t 4)),
         .o 17 (.ld1 (.t 16)),
         .c 18 (.f 105) [.t 17],
         .r 19 (.not (.t 18)),
         .r 15 (.mv (.t 19))])
      (.cond (.t 15)
        (.seq (.reg [.r 2 (.mv (.c (.d (.int .i64 4))))])
        .ret)
        (.seq (.reg (.r 21 (.fld 1 (.t 4)) :: .o 22 (.ld1 (.t 21)) :: .c 23 (.f 55) [.t 22, .c (.d (.int .i64 0)), .c (.d (.int .i64 2000))] :: .r 24 (.mv (.t 23)) :: gapp [25, 26, 27, 28] 24 false (.r 25 (.fld 2 (.t 4)) :: .r 26 (.fld 0 (.t 25)) :: .r 27 (.ld1 (.t 26)) :: .c 28 (.f 55) [.t 27, .c (.d (.int .i64 0)), .c (.d (.int .i64 51))] :: []) (.r 29 (.pick (.t 24) (.c (.d (.bool true))) (.t 28)) :: .r 30 (.mv (.t 29)) :: gapp [31, 32, 33, 34] 30 false (.r 31 (.fld 2 (.t 4)) :: .r 32 (.fld 1 (.t 31)) :: .r 33 (.ld1 (.t 32)) :: .c 34 (.f 55) [.t 33, .c (.d (.int .i64 0)), .c (.d (.int .i64 21))] :: []) (.r 35 (.pick (.t 30) (.c (.d (.bool true))) (.t 34)) :: .r 36 (.mv (.t 35)) :: gapp [37, 38, 39, 40] 36 false (.r 37 (.fld 2 (.t 4)) :: .r 38 (.fld 2 (.t 37)) :: .r 39 (.ld1 (.t 38)) :: .c 40 (.f 55) [.t 39, .c (.d (.int .i64 0)), .c (.d (.int .i64 21))] :: []) (.r 41 (.pick (.t 36) (.c (.d (.bool true))) (.t 40)) :: .r 20 (.mv (.t 41)) :: [])))))
        (.cond (.t 20)
          (.seq (.reg [.r 2 (.mv (.c (.d (.int .i64 1))))])
          .ret)
          (.seq (.reg (.r 43 (.fld 5 (.t 4)) :: .o 44 (.ld1 (.t 43)) :: .r 45 (.bin .neq (.t 44) (.c (.d (.str [])))) :: .r 46 (.mv (.t 45)) :: gapp [47, 48, 49, 50] 46 true (.r 47 (.fld 5 (.t 4)) :: .r 48 (.ld1 (.t 47)) :: .c 49 (.f 21) [.t 48] :: .r 50 (.not (.t 49)) :: []) (.r 51 (.pick (.t 46) (.t 50) (.c (.d (.bool false)))) :: .r 52 (.mv (.t 51)) :: gapp [53, 54, 55, 56] 52 true (.r 53 (.fld 5 (.t 4)) :: .r 54 (.ld1 (.t 53)) :: .c 55 (.f 87) [.t 54] :: .r 56 (.not (.t 55)) :: []) (.r 57 (.pick (.t 52) (.t 56) (.c (.d (.bool false)))) :: .r 42 (.mv (.t 57)) :: []))))
          (.cond (.t 42)
            (.seq (.reg [.r 2 (.mv (.c (.d (.int .i64 3))))])
            .ret)
            (.seq (.regD (.r 59 (.mv (.t 3)) :: .r 60 (.bin .gtr (.t 59) (.c (.d (.int .i64 0)))) :: .r 61 (.mv (.t 60)) :: gapp [62, 63, 64, 65, 66, 67, 68, 69, 70] 61 true (.r 62 (.fld 1 (.t 4)) :: .r 63 (.ld1 (.t 62)) :: .r 64 (.mv (.t 0)) :: .r 65 (.mv (.t 3)) :: .r 66 (.bin .sub (.t 65) (.c (.d (.int .i64 1)))) :: .r 67 (.idx 6 (.t 64) (.t 66)) :: .r 68 (.fld 1 (.t 67)) :: .r 69 (.ld1 (.t 68)) :: .r 70 (.bin .lss (.t 63) (.t 69)) :: []) (.r 71 (.pick (.t 61) (.t 70) (.c (.d (.bool false)))) :: .r 58 (.mv (.t 71)) :: [])))
            (.cond (.t 58)
              (.seq (.reg [.r 2 (.mv (.c (.d (.int .i64 8))))])
              .ret)
              .skip)))))))))))
  (.reg [.r 72 (.bin .add (.t 10) (.c (.d (.int .i64 1)))),
     .r 10 (.mv (.t 72))]))))
def sc_reply_flawsFault_B1 : SC := .block 0 (.loop sc_reply_flawsFault_L1)
/-- interchange/reply.flawsFault -/
def sc_reply_flawsFault : SC :=
  (.seq (.reg [.r 2 (.mv (.c (.d (.int .i64 0))))])
  (.seq (.seq (.reg [.r 5 (.mv (.t 0)),
     .r 6 (.len (.t 5)),
     .r 7 (.bin .gtr (.t 6) (.c (.d (.int .i64 500))))])
  (.cond (.t 7)
    (.seq (.reg [.r 2 (.mv (.c (.d (.int .i64 2))))])
    .ret)
    .skip))
  (.seq (.seq (.reg [.r 8 (.mv (.t 0)),
     .r 9 (.len (.t 8)),
     .r 10 (.mv (.c (.d (.int .i64 0))))])
  sc_reply_flawsFault_B1)
  (.seq (.reg [.r 2 (.mv (.c (.d (.int .i64 0))))])
  .ret))))
theorem fit_reply_flawsFault : fits Tryz.prog 86 Tryz.f86 sc_reply_flawsFault [.t 2] 1 = true := by kernel_rfl

/-- interchange/reply.together -/
def sc_reply_together : SC :=
  (.seq (.reg [.r 2 (.mv (.c (.d (.int .i64 0))))])
  (.seq (.reg [.r 3 (.mv (.f 88))])
  (.seq (.block 0 (.seq (.reg [.r 5 (.mv (.t 0)),
       .r 6 (.mv (.t 3)),
       .c 7 (.t 6) [.c (.d (.int .i64 1))],
       .c 8 (.f 90) [.t 5, .t 7],
       .r 9 (.not (.t 8)),
       .r 4 (.mv (.t 9))])
    (.cond (.t 4)
      (.seq (.reg [.r 2 (.mv (.c (.d (.int .i64 1))))])
      .ret)
      (.seq (.reg [.r 11 (.mv (.t 0)),
         .r 12 (.mv (.t 3)),
         .c 13 (.t 12) [.c (.d (.int .i64 3))],
         .c 14 (.f 90) [.t 11, .t 13],
         .r 15 (.not (.t 14)),
         .r 10 (.mv (.t 15))])
      (.cond (.t 10)
        (.seq (.reg [.r 2 (.mv (.c (.d (.int .i64 3))))])
        .ret)
        .skip)))))
  (.seq (.reg [.r 2 (.mv (.c (.d (.int .i64 2))))])
  .ret))))
theorem fit_reply_together : fits Tryz.prog 60 Tryz.f60 sc_reply_together [.t 2] 1 = true := by kernel_rfl

def sc_interchangeref7_checkMessage_L1 : SC :=
  (.seq (.seq (.reg [.r 21 (.mv (.t 6)),
     .r 22 (.mv (.t 1)),
     .r 23 (.bin .lss (.t 21) (.t 22))])
  (.cond (.t 23)
    .skip
    (.exit 0)))
  (.seq (.block 1 (.seq (.regD [.r 26 (.mv (.t 0)),
       .r 27 (.mv (.t 6)),
       .r 28 (.idx 5 (.t 26) (.t 27)),
       .r 29 (.fld 0 (.t 28)),
       .r 30 (.ld1 (.t 29)),
       .r 31 (.fld 0 (.t 5)),
       .r 32 (.ld1 (.t 31)),
       .r 33 (.bin .eql (.t 30) (.t 32))])
    (.cond (.t 33)
      (.seq (.reg [.r 4 (.mv (.c (.d (.int .i64 7))))])
      .ret)
      .skip)))
  (.reg [.r 24 (.mv (.t 6)),
     .r 25 (.bin .add (.t 24) (.c (.d (.int .i64 1)))),
     .r 6 (.mv (.t 25))])))
def sc_interchangeref7_checkMessage_B1 : SC := .block 0 (.loop sc_interchangeref7_checkMessage_L1)
def sc_interchangeref7_checkMessage_L2 : SC :=
  (.seq (.seq (.reg [.r 63 (.mv (.t 8)),
     .r 64 (.fld 4 (.t 5)),
     .o 65 (.ld1 (.t 64)),
     .r 66 (.len (.t 65)),
     .r 67 (.bin .lss (.t 63) (.t 66))])
  (.cond (.t 67)
    .skip
    (.exit 2)))
  (.seq (.block 3 (.seq (.seq (.reg [.r 70 (.fld 4 (.t 5)),
       .o 71 (.ld1 (.t 70)),
       .r 72 (.mv (.t 8)),
       .r 73 (.idx 1 (.t 71) (.t 72)),
       .o 74 (.ld1 (.t 73)),
       .c 75 (.f 94) [.t 74],
       .r 76 (.not (.t 75))])
    (.cond (.t 76)
      (.seq (.reg [.r 4 (.mv (.c (.d (.int .i64 5))))])
      .ret)
      .skip))
    (.seq (.regD (.r 77 (.mv (.t 8)) :: .r 78 (.bin .gtr (.t 77) (.c (.d (.int .i64 0)))) :: .r 79 (.mv (.t 78)) :: gapp [80, 81, 82, 83, 84, 85, 86, 87, 88, 89, 90, 91] 79 true (.r 80 (.fld 4 (.t 5)) :: .r 81 (.ld1 (.t 80)) :: .r 82 (.mv (.t 8)) :: .r 83 (.idx 1 (.t 81) (.t 82)) :: .r 84 (.ld1 (.t 83)) :: .r 85 (.fld 4 (.t 5)) :: .r 86 (.ld1 (.t 85)) :: .r 87 (.mv (.t 8)) :: .r 88 (.bin .sub (.t 87) (.c (.d (.int .i64 1)))) :: .r 89 (.idx 1 (.t 86) (.t 88)) :: .r 90 (.ld1 (.t 89)) :: .r 91 (.bin .leq (.t 84) (.t 90)) :: []) (.r 92 (.pick (.t 79) (.t 91) (.c (.d (.bool false)))) :: [])))
    (.cond (.t 92)
      (.seq (.reg [.r 4 (.mv (.c (.d (.int .i64 8))))])
      .ret)
      .skip))))
  (.reg [.r 68 (.mv (.t 8)),
     .r 69 (.bin .add (.t 68) (.c (.d (.int .i64 1)))),
     .r 8 (.mv (.t 69))])))
def sc_interchangeref7_checkMessage_B2 : SC := .block 2 (.loop sc_interchangeref7_checkMessage_L2)
/-- interchange/interchangeref7.checkMessage -/
def sc_interchangeref7_checkMessage : SC :=
  (.seq (.reg [.r 4 (.mv (.c (.d (.int .i64 0))))])
  (.seq (.reg [.r 9 (.mv (.t 0)),
     .r 10 (.mv (.t 1)),
     .r 11 (.idx 5 (.t 9) (.t 10)),
     .o 12 (.ldA 5 (.t 11)),
     .w 5 (.boxM (.c (.agg [.d (.str []), .d (.int .i64 0), .d (.bool false), .nils, .nils]))),
     .w 0 (.st 5 (.t 5) (.t 12))])
  (.seq (.seq (.reg [.r 13 (.fld 0 (.t 5)),
     .o 14 (.ld1 (.t 13)),
     .c 15 (.f 37) [.t 14],
     .r 16 (.not (.t 15))])
  (.cond (.t 16)
    (.seq (.reg [.r 4 (.mv (.c (.d (.int .i64 3))))])
    .ret)
    .skip))
  (.seq (.seq (.reg [.r 17 (.fld 1 (.t 5)),
     .o 18 (.ld1 (.t 17)),
     .c 19 (.f 38) [.t 18],
     .r 20 (.not (.t 19))])
  (.cond (.t 20)
    (.seq (.reg [.r 4 (.mv (.c (.d (.int .i64 4))))])
    .ret)
    .skip))
  (.seq (.seq (.reg [.r 6 (.mv (.c (.d (.int .i64 0))))])
  sc_interchangeref7_checkMessage_B1)
  (.seq (.seq (.reg (.r 34 (.fld 2 (.t 5)) :: .o 35 (.ld1 (.t 34)) :: .r 36 (.mv (.t 35)) :: gapp [37, 38, 39, 40, 41, 42, 43, 44, 45, 46, 47, 48, 49, 50, 51] 36 true (.r 37 (.fld 1 (.t 5)) :: .r 38 (.ld1 (.t 37)) :: .r 39 (.bin .neq (.t 38) (.c (.d (.int .i64 3)))) :: .r 40 (.mv (.t 39)) :: gapp [41, 42, 43, 44] 40 false (.r 41 (.fld 3 (.t 5)) :: .r 42 (.ld1 (.t 41)) :: .r 43 (.len (.t 42)) :: .r 44 (.bin .gtr (.t 43) (.c (.d (.int .i64 0)))) :: []) (.r 45 (.pick (.t 40) (.c (.d (.bool true))) (.t 44)) :: .r 46 (.mv (.t 45)) :: gapp [47, 48, 49, 50] 46 false (.r 47 (.fld 4 (.t 5)) :: .r 48 (.ld1 (.t 47)) :: .r 49 (.len (.t 48)) :: .r 50 (.bin .gtr (.t 49) (.c (.d (.int .i64 0)))) :: []) (.r 51 (.pick (.t 46) (.c (.d (.bool true))) (.t 50)) :: []))) (.r 52 (.pick (.t 36) (.t 51) (.c (.d (.bool false)))) :: [])))
  (.cond (.t 52)
    (.seq (.reg [.r 4 (.mv (.c (.d (.int .i64 12))))])
    .ret)
    .skip))
  (.seq (.seq (.reg [.r 53 (.fld 3 (.t 5)),
     .o 54 (.ld1 (.t 53)),
     .c 55 (.f 93) [.t 54],
     .r 7 (.mv (.t 55))])
  (.seq (.reg [.r 56 (.mv (.t 7)),
     .r 57 (.bin .neq (.t 56) (.c (.d (.int .i64 0))))])
  (.cond (.t 57)
    (.seq (.reg [.r 58 (.mv (.t 7)),
       .r 4 (.mv (.t 58))])
    .ret)
    .skip)))
  (.seq (.seq (.reg [.r 59 (.fld 4 (.t 5)),
     .o 60 (.ld1 (.t 59)),
     .r 61 (.len (.t 60)),
     .r 62 (.bin .gtr (.t 61) (.c (.d (.int .i64 200))))])
  (.cond (.t 62)
    (.seq (.reg [.r 4 (.mv (.c (.d (.int .i64 2))))])
    .ret)
    .skip))
  (.seq (.seq (.reg [.r 8 (.mv (.c (.d (.int .i64 0))))])
  sc_interchangeref7_checkMessage_B2)
  (.seq (.seq (.reg (.r 93 (.fld 1 (.t 5)) :: .o 94 (.ld1 (.t 93)) :: .r 95 (.bin .eql (.t 94) (.c (.d (.int .i64 1)))) :: .r 96 (.mv (.t 95)) :: gapp [97, 98, 99, 100, 101, 102, 103, 104, 105, 106] 96 true (.r 97 (.fld 3 (.t 5)) :: .r 98 (.ld1 (.t 97)) :: .r 99 (.len (.t 98)) :: .r 100 (.bin .gtr (.t 99) (.c (.d (.int .i64 0)))) :: .r 101 (.mv (.t 100)) :: gapp [102, 103, 104, 105] 101 false (.r 102 (.fld 4 (.t 5)) :: .r 103 (.ld1 (.t 102)) :: .r 104 (.len (.t 103)) :: .r 105 (.bin .gtr (.t 104) (.c (.d (.int .i64 0)))) :: []) (.r 106 (.pick (.t 101) (.c (.d (.bool true))) (.t 105)) :: [])) (.r 107 (.pick (.t 96) (.t 106) (.c (.d (.bool false)))) :: [])))
  (.cond (.t 107)
    (.seq (.reg [.r 4 (.mv (.c (.d (.int .i64 12))))])
    .ret)
    .skip))
  (.seq (.reg [.r 4 (.mv (.c (.d (.int .i64 0))))])
  .ret)))))))))))
theorem fit_interchangeref7_checkMessage : fits Tryz.prog 65 Tryz.f65 sc_interchangeref7_checkMessage [.t 4] 2 = true := by kernel_rfl

def sc_interchangeref7_SameReply_L1 : SC :=
  (.seq (.seq (.reg [.r 68 (.mv (.t 8)),
     .r 69 (.fld 2 (.t 6)),
     .o 70 (.ld1 (.t 69)),
     .r 71 (.len (.t 70)),
     .r 72 (.bin .lss (.t 68) (.t 71))])
  (.cond (.t 72)
    .skip
    (.exit 2)))
  (.seq (.block 3 (.seq (.regD [.r 75 (.fld 2 (.t 6)),
       .r 76 (.ld1 (.t 75)),
       .r 77 (.mv (.t 8)),
       .r 78 (.idx 5 (.t 76) (.t 77)),
       .r 79 (.ldA 5 (.t 78)),
       .r 80 (.fld 2 (.t 7)),
       .r 81 (.ld1 (.t 80)),
       .r 82 (.mv (.t 8)),
       .r 83 (.idx 5 (.t 81) (.t 82)),
       .r 84 (.ldA 5 (.t 83)),
       .c 85 (.f 17) [.t 79, .t 84],
       .r 86 (.not (.t 85))])
    (.cond (.t 86)
      (.seq (.reg [.r 4 (.mv (.c (.d (.bool false))))])
      .ret)
      .skip)))
  (.reg [.r 73 (.mv (.t 8)),
     .r 74 (.bin .add (.t 73) (.c (.d (.int .i64 1)))),
     .r 8 (.mv (.t 74))])))
def sc_interchangeref7_SameReply_B1 : SC := .block 2 (.loop sc_interchangeref7_SameReply_L1)
def sc_interchangeref7_SameReply_L2 : SC :=
  (.seq (.seq (.reg [.r 30 (.mv (.t 5)),
     .r 31 (.fld 2 (.t 2)),
     .o 32 (.ld1 (.t 31)),
     .r 33 (.len (.t 32)),
     .r 34 (.bin .lss (.t 30) (.t 33))])
  (.cond (.t 34)
    .skip
    (.exit 0)))
  (.seq (.block 1 (.seq (.regV [0, 1, 2, 3, 4, 5, 6, 7, 8, 9, 11, 10, 12, 13] [.r 37 (.fld 2 (.t 2)), .r 38 (.ld1 (.t 37)), .r 39 (.mv (.t 5)), .r 40 (.idx 3 (.t 38) (.t 39)), .r 41 (.ldA 3 (.t 40)), .r 42 (.fld 2 (.t 3)), .r 43 (.ld1 (.t 42)), .r 44 (.mv (.t 5)), .r 45 (.idx 3 (.t 43) (.t 44)), .r 46 (.ldA 3 (.t 45))] (.x 6 (.boxM (.c (.agg [.d (.str []), .d (.int .i64 0), .nils]))) [(0, 37, .fld 2 (.t 2)), (1, 38, .ld1 (.t 37)), (2, 39, .mv (.t 5)), (3, 40, .idx 3 (.t 38) (.t 39)), (4, 41, .ldA 3 (.t 40)), (5, 42, .fld 2 (.t 3)), (6, 43, .ld1 (.t 42)), (7, 44, .mv (.t 5)), (8, 45, .idx 3 (.t 43) (.t 44)), (9, 46, .ldA 3 (.t 45))]) (.x 7 (.boxM (.c (.agg [.d (.str []), .d (.int .i64 0), .nils]))) [(0, 37, .fld 2 (.t 2)), (1, 38, .ld1 (.t 37)), (2, 39, .mv (.t 5)), (3, 40, .idx 3 (.t 38) (.t 39)), (4, 41, .ldA 3 (.t 40)), (5, 42, .fld 2 (.t 3)), (6, 43, .ld1 (.t 42)), (7, 44, .mv (.t 5)), (8, 45, .idx 3 (.t 43) (.t 44)), (9, 46, .ldA 3 (.t 45))]) [.x 0 (.st 3 (.t 6) (.t 41)) [(5, 42, .fld 2 (.t 3)), (6, 43, .ld1 (.t 42)), (7, 44, .mv (.t 5)), (8, 45, .idx 3 (.t 43) (.t 44)), (9, 46, .ldA 3 (.t 45))], .x 0 (.st 3 (.t 7) (.t 46)) []])
    (.seq (.seq (.reg (.r 47 (.fld 0 (.t 6)) :: .o 48 (.ld1 (.t 47)) :: .r 49 (.fld 0 (.t 7)) :: .o 50 (.ld1 (.t 49)) :: .r 51 (.bin .neq (.t 48) (.t 50)) :: .r 52 (.mv (.t 51)) :: gapp [53, 54, 55, 56, 57] 52 false (.r 53 (.fld 1 (.t 6)) :: .r 54 (.ld1 (.t 53)) :: .r 55 (.fld 1 (.t 7)) :: .r 56 (.ld1 (.t 55)) :: .r 57 (.bin .neq (.t 54) (.t 56)) :: []) (.r 58 (.pick (.t 52) (.c (.d (.bool true))) (.t 57)) :: .r 59 (.mv (.t 58)) :: gapp [60, 61, 62, 63, 64, 65, 66] 59 false (.r 60 (.fld 2 (.t 6)) :: .r 61 (.ld1 (.t 60)) :: .r 62 (.len (.t 61)) :: .r 63 (.fld 2 (.t 7)) :: .r 64 (.ld1 (.t 63)) :: .r 65 (.len (.t 64)) :: .r 66 (.bin .neq (.t 62) (.t 65)) :: []) (.r 67 (.pick (.t 59) (.c (.d (.bool true))) (.t 66)) :: []))))
    (.cond (.t 67)
      (.seq (.reg [.r 4 (.mv (.c (.d (.bool false))))])
      .ret)
      .skip))
    (.seq (.reg [.r 8 (.mv (.c (.d (.int .i64 0))))])
    sc_interchangeref7_SameReply_B1))))
  (.reg [.r 35 (.mv (.t 5)),
     .r 36 (.bin .add (.t 35) (.c (.d (.int .i64 1)))),
     .r 5 (.mv (.t 36))])))
def sc_interchangeref7_SameReply_B2 : SC := .block 0 (.loop sc_interchangeref7_SameReply_L2)
/-- interchange/interchangeref7.SameReply -/
def sc_interchangeref7_SameReply : SC :=
  (.seq (.reg [.r 2 (.boxI (.t 0)),
     .r 3 (.boxI (.t 1)),
     .r 4 (.mv (.c (.d (.bool false))))])
  (.seq (.seq (.reg (.r 9 (.fld 0 (.t 2)) :: .o 10 (.ld1 (.t 9)) :: .r 11 (.fld 0 (.t 3)) :: .o 12 (.ld1 (.t 11)) :: .r 13 (.bin .neq (.t 10) (.t 12)) :: .r 14 (.mv (.t 13)) :: gapp [15, 16, 17, 18, 19] 14 false (.r 15 (.fld 1 (.t 2)) :: .r 16 (.ld1 (.t 15)) :: .r 17 (.fld 1 (.t 3)) :: .r 18 (.ld1 (.t 17)) :: .r 19 (.bin .neq (.t 16) (.t 18)) :: []) (.r 20 (.pick (.t 14) (.c (.d (.bool true))) (.t 19)) :: .r 21 (.mv (.t 20)) :: gapp [22, 23, 24, 25, 26, 27, 28] 21 false (.r 22 (.fld 2 (.t 2)) :: .r 23 (.ld1 (.t 22)) :: .r 24 (.len (.t 23)) :: .r 25 (.fld 2 (.t 3)) :: .r 26 (.ld1 (.t 25)) :: .r 27 (.len (.t 26)) :: .r 28 (.bin .neq (.t 24) (.t 27)) :: []) (.r 29 (.pick (.t 21) (.c (.d (.bool true))) (.t 28)) :: []))))
  (.cond (.t 29)
    (.seq (.reg [.r 4 (.mv (.c (.d (.bool false))))])
    .ret)
    .skip))
  (.seq (.seq (.reg [.r 5 (.mv (.c (.d (.int .i64 0))))])
  sc_interchangeref7_SameReply_B2)
  (.seq (.reg [.r 4 (.mv (.c (.d (.bool true))))])
  .ret))))
theorem fit_interchangeref7_SameReply : fits Tryz.prog 7 Tryz.f7 sc_interchangeref7_SameReply [.t 4] 2 = true := by kernel_rfl

def sc_interchangeref2_SameSegments_L1 : SC :=
  (.seq (.seq (.reg [.r 11 (.mv (.t 5)),
     .r 12 (.mv (.t 0)),
     .r 13 (.len (.t 12)),
     .r 14 (.bin .lss (.t 11) (.t 13))])
  (.cond (.t 14)
    .skip
    (.exit 0)))
  (.seq (.block 1 (.seq (.regD [.r 17 (.mv (.t 0)),
       .r 18 (.mv (.t 5)),
       .r 19 (.idx 2 (.t 17) (.t 18)),
       .r 20 (.ldA 2 (.t 19)),
       .r 21 (.mv (.t 1)),
       .r 22 (.mv (.t 5)),
       .r 23 (.idx 2 (.t 21) (.t 22)),
       .r 24 (.ldA 2 (.t 23)),
       .c 25 (.f 20) [.t 20, .t 24],
       .r 26 (.not (.t 25))])
    (.cond (.t 26)
      (.seq (.reg [.r 4 (.mv (.c (.d (.bool false))))])
      .ret)
      .skip)))
  (.reg [.r 15 (.mv (.t 5)),
     .r 16 (.bin .add (.t 15) (.c (.d (.int .i64 1)))),
     .r 5 (.mv (.t 16))])))
def sc_interchangeref2_SameSegments_B1 : SC := .block 0 (.loop sc_interchangeref2_SameSegments_L1)
/-- interchange/interchangeref2.SameSegments -/
def sc_interchangeref2_SameSegments : SC :=
  (.seq (.reg [.r 4 (.mv (.c (.d (.bool false))))])
  (.seq (.seq (.reg [.r 6 (.mv (.t 0)),
     .r 7 (.len (.t 6)),
     .r 8 (.mv (.t 1)),
     .r 9 (.len (.t 8)),
     .r 10 (.bin .neq (.t 7) (.t 9))])
  (.cond (.t 10)
    (.seq (.reg [.r 4 (.mv (.c (.d (.bool false))))])
    .ret)
    .skip))
  (.seq (.seq (.reg [.r 5 (.mv (.c (.d (.int .i64 0))))])
  sc_interchangeref2_SameSegments_B1)
  (.seq (.reg [.r 4 (.mv (.c (.d (.bool true))))])
  .ret))))
theorem fit_interchangeref2_SameSegments : fits Tryz.prog 10 Tryz.f10 sc_interchangeref2_SameSegments [.t 4] 2 = true := by kernel_rfl

set_option maxRecDepth 100000 in
set_option maxHeartbeats 40000000 in
noncomputable def sims_G5_2_0 : (∀ (x0 : List Tapi_Flaw), {m : Option (Int) // ∀ r, m = some r → PureSpec Tryz.prog 86 [.slice (List.map rTapi_Flaw x0)] (.int .i64 r)}) × (∀ (x0 : List Int), {m : Option (Int) // ∀ r, m = some r → PureSpec Tryz.prog 60 [.slice (List.map rowI x0)] (.int .i64 r)}) × (∀ (x0 : List Tapi_MessageReply) (x1 : Int), {m : Option (Int) // ∀ r, m = some r → PureSpec Tryz.prog 65 [.slice (List.map rTapi_MessageReply x0), .int .i64 x1] (.int .i64 r)}) × (∀ (x0 : Tapi_Reply) (x1 : Tapi_Reply), {m : Option (Bool) // ∀ r, m = some r → PureSpec Tryz.prog 7 [.agg (rTapi_Reply x0), .agg (rTapi_Reply x1)] (.bool r)}) × (∀ (x0 : List Tapi_Segment) (x1 : List Tapi_Segment), {m : Option (Bool) // ∀ r, m = some r → PureSpec Tryz.prog 10 [.slice (List.map rTapi_Segment x0), .slice (List.map rTapi_Segment x1)] (.bool r)}) := by
  refine ⟨?g0, ?g1, ?g2, ?g3, ?g4⟩
  case' g0 => (intro x0; apply Subtype.mk; intro r hm; apply pure_walk Tryz.func86 fit_reply_flawsFault; unfold sc_reply_flawsFault)
  case' g1 => (intro x0; apply Subtype.mk; intro r hm; apply pure_walk Tryz.func60 fit_reply_together; unfold sc_reply_together)
  case' g2 => (intro x0 x1; apply Subtype.mk; intro r hm; apply pure_walk Tryz.func65 fit_interchangeref7_checkMessage; unfold sc_interchangeref7_checkMessage)
  case' g3 => (intro x0 x1; apply Subtype.mk; intro r hm; apply pure_walk Tryz.func7 fit_interchangeref7_SameReply; unfold sc_interchangeref7_SameReply)
  case' g4 => (intro x0 x1; apply Subtype.mk; intro r hm; apply pure_walk Tryz.func10 fit_interchangeref2_SameSegments; unfold sc_interchangeref2_SameSegments)
  all_goals (repeat' (first | with_reducible refine W_seq ?_ | with_reducible refine W_reg ?_ | with_reducible refine W_regD ?_ | with_reducible refine W_regV ?_ | with_reducible refine W_block ?_ | with_reducible refine W_skip ?_ | with_reducible refine W_ret ?_ | with_reducible refine W_exit ?_ | with_reducible refine O_nil ?_ | with_reducible refine K_seq ?_ | with_reducible refine K_seqE ?_ | with_reducible refine K_seqR ?_ | with_reducible refine K_block ?_ | with_reducible refine K_blockR ?_ | with_reducible refine O_o2r ?_ | ((with_reducible apply O_idxrE hm); (iterate 2 (simp only [push_cast, seval]; rfl)); (intro _; rfl); intro e he hm) | ((with_reducible apply O_r); (simp only [push_cast, seval]; rfl); (first | exact trivial)) | ((with_reducible apply O_and hm); (simp only [push_cast, seval]; rfl); rfl; intro v hm; rotate_left; intro v g hm) | ((with_reducible apply O_or hm); (simp only [push_cast, seval]; rfl); rfl; intro v hm; rotate_left; intro v g hm) | ((with_reducible apply O_cF hm); (simp only [push_cast, seval]; rfl); (first | apply spec_reply_isFlaw _ | apply spec_kit_Outside _ _ _ | apply spec_kit_IsTag _ | apply spec_kit_IsName _ | apply spec_slices_ContainsFunc_int_int _ _ _ _ (fun a0 r h => spec_reply_together_1_1 a0 _ r h) | apply spec_interchangeref2_IsReference _ | apply spec_interchangeref7_isVerdict _ | apply spec_interchangeref7_checkFlaws _ | apply spec_interchangeref2_IsName _ | apply spec_interchangeref7_sameMessage _ _ | apply spec_interchangeref2_SameSegment _ _); (any_goals ((repeat' (first | rfl)); done)); intro x hm) | ((with_reducible apply O_cvS hm); (iterate 2 (simp only [push_cast, seval]; rfl)); (focus (first | exact spec_reply_together_1 _)); intro x hm) | ((with_reducible apply K_pair); (iterate 2 rfl); decide; (iterate 4 rfl); (focus ((repeat' (first | exact Rer_nil | ((with_reducible apply Rer_idx); (focus (simp only [push_cast, seval]; rfl)); (focus (simp only [push_cast, seval]; rfl)); rotate_left 2; (focus (first | (simp only [push_cast, seval]; rfl))); rotate_left; (focus assumption); (focus (intro _; rfl))) | ((with_reducible apply Rer_cons); (focus (simp only [push_cast, seval]; rfl)); (focus (first | exact trivial)); (focus (simp only [push_cast, seval]))))); done)); (focus ((repeat' (first | exact Rer_nil | ((with_reducible apply Rer_idx); (focus (simp only [push_cast, seval]; rfl)); (focus (simp only [push_cast, seval]; rfl)); rotate_left 2; (focus (first | (simp only [push_cast, seval]; rfl))); rotate_left; (focus assumption); (focus (intro _; rfl))) | ((with_reducible apply Rer_cons); (focus (simp only [push_cast, seval]; rfl)); (focus (first | exact trivial)); (focus (simp only [push_cast, seval]))))); done)); (focus ((repeat' (first | exact Rer_nil | ((with_reducible apply Rer_idx); (focus (simp only [push_cast, seval]; rfl)); (focus (simp only [push_cast, seval]; rfl)); rotate_left 2; (focus (first | (simp only [push_cast, seval]; rfl))); rotate_left; (focus assumption); (focus (intro _; rfl))) | ((with_reducible apply Rer_cons); (focus (simp only [push_cast, seval]; rfl)); (focus (first | exact trivial)); (focus (simp only [push_cast, seval]))))); done)); (focus ((repeat' (first | exact Rer_nil | ((with_reducible apply Rer_idx); (focus (simp only [push_cast, seval]; rfl)); (focus (simp only [push_cast, seval]; rfl)); rotate_left 2; (focus (first | (simp only [push_cast, seval]; rfl))); rotate_left; (focus assumption); (focus (intro _; rfl))) | ((with_reducible apply Rer_cons); (focus (simp only [push_cast, seval]; rfl)); (focus (first | exact trivial)); (focus (simp only [push_cast, seval]))))); done))) | ((with_reducible apply O_w); (simp only [push_cast, seval]; rfl); (first | exact trivial)) | ((with_reducible apply O_x); (simp only [push_cast, seval]; rfl); (first | exact trivial); (focus ((repeat' (first | exact Rer_nil | ((with_reducible apply Rer_idx); (focus (simp only [push_cast, seval]; rfl)); (focus (simp only [push_cast, seval]; rfl)); rotate_left 2; (focus (first | (simp only [push_cast, seval]; rfl))); rotate_left; (focus assumption); (focus (intro _; rfl))) | ((with_reducible apply Rer_cons); (focus (simp only [push_cast, seval]; rfl)); (focus (first | exact trivial)); (focus (simp only [push_cast, seval]))))); done))) | ((with_reducible apply S_condB hm); (simp only [push_cast, seval]; rfl); intro hm; rotate_left; intro hm) | ((with_reducible apply K_endS hm); (focus (simp only [resOf, resL, RV.get, push_cast, seval]; rfl)); (focus ((repeat' (first | rfl)); done))) | ((with_reducible apply K_bool hm); (simp only [push_cast, seval]; rfl)) | ((with_reducible apply K_leave hm); intro r hm) | ((with_reducible apply K_leaveR hm); intro r hm) | ((apply S_loopY (b := 0) (X := sc_reply_flawsFault_B1) (x := sc_reply_flawsFault_L1) rfl (fun (c : SV × SV × SV) (s : Int) => st [(0, c.1), (8, c.2.1), (9, c.2.2), (10, .d (.int .i64 s))] []) (c := (_, _, _)) (s0 := _) hm); (focus (first | (dsimp only; done))); (with_reducible refine Then.mk ?_ ?_)) | ((apply S_loopY (b := 0) (X := sc_interchangeref7_checkMessage_B1) (x := sc_interchangeref7_checkMessage_L1) rfl (fun (c : SV × SV × Ch) (s : Int) => st [(0, c.1), (1, c.2.1), (5, .ref 5 0), (6, .d (.int .i64 s))] [(5, c.2.2)]) (c := (_, _, _)) (s0 := _) hm); (focus (first | (dsimp only; done))); (with_reducible refine Then.mk ?_ ?_)) | ((apply S_loopY (b := 2) (X := sc_interchangeref7_checkMessage_B2) (x := sc_interchangeref7_checkMessage_L2) rfl (fun (c : Ch) (s : Int) => st [(5, .ref 5 0), (8, .d (.int .i64 s))] [(5, c)]) (c := _) (s0 := _) hm); (focus (first | (dsimp only; done))); (with_reducible refine Then.mk ?_ ?_)) | ((apply S_loopY (b := 2) (X := sc_interchangeref7_SameReply_B1) (x := sc_interchangeref7_SameReply_L1) rfl (fun (c : SV × SV × SV × Ch × Ch) (s : Int) => st [(2, c.1), (3, c.2.1), (5, c.2.2.1), (6, .ref 6 0), (7, .ref 7 0), (8, .d (.int .i64 s))] [(6, c.2.2.2.1), (7, c.2.2.2.2)]) (c := (_, _, _, _, _)) (s0 := _) hm); (focus (first | (dsimp only; done))); (with_reducible refine Then.mk ?_ ?_)) | ((apply S_loopY (b := 0) (X := sc_interchangeref7_SameReply_B2) (x := sc_interchangeref7_SameReply_L2) rfl (fun (c : SV × SV) (s : Int) => st [(2, c.1), (3, c.2), (5, .d (.int .i64 s))] []) (c := (_, _)) (s0 := _) hm); (focus (first | (dsimp only; done))); (with_reducible refine Then.mk ?_ ?_)) | ((apply S_loopY (b := 0) (X := sc_interchangeref2_SameSegments_B1) (x := sc_interchangeref2_SameSegments_L1) rfl (fun (c : SV × SV) (s : Int) => st [(0, c.1), (1, c.2), (5, .d (.int .i64 s))] []) (c := (_, _)) (s0 := _) hm); (focus (first | (dsimp only; done))); (with_reducible refine Then.mk ?_ ?_)) | ((apply K_next (s' := _) hm); (focus (first | (dsimp only; done)))) | ((apply K_brk (s' := _) hm); (focus (first | (dsimp only; done)))) | (((with_reducible apply K_brkR hm); intro r hm)) | (((with_reducible apply LoopB.of); (focus (first | (dsimp only; done))); (focus ((intro _; repeat' (first | with_reducible exact impC_end | with_reducible refine impC_seq ?_ | with_reducible refine impC_block ?_ | ((with_reducible refine impC_rnd ?_); intro _) | ((with_reducible refine impC_brk ?_); intro _))))); (intro s o hm; first | unfold sc_reply_flawsFault_L1 | unfold sc_interchangeref7_checkMessage_L1 | unfold sc_interchangeref7_checkMessage_L2 | unfold sc_interchangeref7_SameReply_L1 | unfold sc_interchangeref7_SameReply_L2 | unfold sc_interchangeref2_SameSegments_L1); rotate_left; intro s hm)) | (((apply imp_stT; (repeat' (first | with_reducible exact keepT_nil | with_reducible exact keepC_nil | with_reducible apply keepT_cons | with_reducible apply keepC_cons | ((with_reducible apply svle_eq); (focus (first | (simp only [push_cast, seval]; rfl))); (focus ((repeat' (first | rfl)); done))) | ((with_reducible apply chle_eq); (focus (first | (simp only [push_cast, seval]; rfl))); (first | with_reducible exact chle_rfl rfl)))); done)))))
noncomputable def m_reply_flawsFault (x0 : List Tapi_Flaw) : Option (Int) := (sims_G5_2_0.1 x0).1
theorem spec_reply_flawsFault (x0 : List Tapi_Flaw) : ∀ r, m_reply_flawsFault x0 = some r → PureSpec Tryz.prog 86 [.slice (List.map rTapi_Flaw x0)] (.int .i64 r) := (sims_G5_2_0.1 x0).2
noncomputable def m_reply_together (x0 : List Int) : Option (Int) := (sims_G5_2_0.2.1 x0).1
theorem spec_reply_together (x0 : List Int) : ∀ r, m_reply_together x0 = some r → PureSpec Tryz.prog 60 [.slice (List.map rowI x0)] (.int .i64 r) := (sims_G5_2_0.2.1 x0).2
noncomputable def m_interchangeref7_checkMessage (x0 : List Tapi_MessageReply) (x1 : Int) : Option (Int) := (sims_G5_2_0.2.2.1 x0 x1).1
theorem spec_interchangeref7_checkMessage (x0 : List Tapi_MessageReply) (x1 : Int) : ∀ r, m_interchangeref7_checkMessage x0 x1 = some r → PureSpec Tryz.prog 65 [.slice (List.map rTapi_MessageReply x0), .int .i64 x1] (.int .i64 r) := (sims_G5_2_0.2.2.1 x0 x1).2
noncomputable def m_interchangeref7_SameReply (x0 : Tapi_Reply) (x1 : Tapi_Reply) : Option (Bool) := (sims_G5_2_0.2.2.2.1 x0 x1).1
theorem spec_interchangeref7_SameReply (x0 : Tapi_Reply) (x1 : Tapi_Reply) : ∀ r, m_interchangeref7_SameReply x0 x1 = some r → PureSpec Tryz.prog 7 [.agg (rTapi_Reply x0), .agg (rTapi_Reply x1)] (.bool r) := (sims_G5_2_0.2.2.2.1 x0 x1).2
noncomputable def m_interchangeref2_SameSegments (x0 : List Tapi_Segment) (x1 : List Tapi_Segment) : Option (Bool) := (sims_G5_2_0.2.2.2.2 x0 x1).1
theorem spec_interchangeref2_SameSegments (x0 : List Tapi_Segment) (x1 : List Tapi_Segment) : ∀ r, m_interchangeref2_SameSegments x0 x1 = some r → PureSpec Tryz.prog 10 [.slice (List.map rTapi_Segment x0), .slice (List.map rTapi_Segment x1)] (.bool r) := (sims_G5_2_0.2.2.2.2 x0 x1).2

def sc_reply_messageFault_L1 : SC :=
  (.seq (.reg [.r 58 (.bin .lss (.t 57) (.t 56))])
  (.seq (.cond (.t 58)
    .skip
    (.exit 1))
  (.seq (.block 2 (.seq (.reg [.r 59 (.mv (.t 57)),
       .r 60 (.idx 1 (.t 55) (.t 57)),
       .o 61 (.ld1 (.t 60)),
       .r 7 (.mv (.t 59)),
       .r 8 (.mv (.t 61))])
    (.seq (.seq (.reg [.r 62 (.mv (.t 8)),
       .c 63 (.f 87) [.t 62],
       .r 64 (.not (.t 63))])
    (.cond (.t 64)
      (.seq (.reg [.r 4 (.mv (.c (.d (.int .i64 5))))])
      .ret)
      .skip))
    (.seq (.reg (.r 65 (.mv (.t 7)) :: .r 66 (.bin .gtr (.t 65) (.c (.d (.int .i64 0)))) :: .r 67 (.mv (.t 66)) :: gapp [68, 69, 70, 71, 72, 73, 74, 75] 67 true (.r 68 (.mv (.t 8)) :: .r 69 (.fld 4 (.t 2)) :: .r 70 (.ld1 (.t 69)) :: .r 71 (.mv (.t 7)) :: .r 72 (.bin .sub (.t 71) (.c (.d (.int .i64 1)))) :: .r 73 (.idx 1 (.t 70) (.t 72)) :: .r 74 (.ld1 (.t 73)) :: .r 75 (.bin .leq (.t 68) (.t 74)) :: []) (.r 76 (.pick (.t 67) (.t 75) (.c (.d (.bool false)))) :: [])))
    (.cond (.t 76)
      (.seq (.reg [.r 4 (.mv (.c (.d (.int .i64 8))))])
      .ret)
      .skip)))))
  (.reg [.r 77 (.bin .add (.t 57) (.c (.d (.int .i64 1)))),
     .r 57 (.mv (.t 77))]))))
def sc_reply_messageFault_B1 : SC := .block 1 (.loop sc_reply_messageFault_L1)
/-- interchange/reply.messageFault -/
def sc_reply_messageFault : SC :=
  (.seq (.reg [.r 2 (.boxI (.t 0)),
     .r 4 (.mv (.c (.d (.int .i64 0))))])
  (.seq (.reg (.r 9 (.fld 3 (.t 2)) :: .o 10 (.ld1 (.t 9)) :: .r 11 (.len (.t 10)) :: .r 12 (.bin .gtr (.t 11) (.c (.d (.int .i64 0)))) :: .r 13 (.mv (.t 12)) :: gapp [14, 15, 16, 17] 13 false (.r 14 (.fld 4 (.t 2)) :: .r 15 (.ld1 (.t 14)) :: .r 16 (.len (.t 15)) :: .r 17 (.bin .gtr (.t 16) (.c (.d (.int .i64 0)))) :: []) (.r 18 (.pick (.t 13) (.c (.d (.bool true))) (.t 17)) :: .r 5 (.mv (.t 18)) :: [])))
  (.seq (.block 0 (.seq (.reg [.r 20 (.fld 0 (.t 2)),
       .o 21 (.ld1 (.t 20)),
       .c 22 (.f 28) [.t 21],
       .r 23 (.not (.t 22)),
       .r 19 (.mv (.t 23))])
    (.cond (.t 19)
      (.seq (.reg [.r 4 (.mv (.c (.d (.int .i64 3))))])
      .ret)
      (.seq (.reg [.r 25 (.fld 1 (.t 2)),
         .o 26 (.ld1 (.t 25)),
         .c 27 (.f 29) [.t 26],
         .r 28 (.not (.t 27)),
         .r 24 (.mv (.t 28))])
      (.cond (.t 24)
        (.seq (.reg [.r 4 (.mv (.c (.d (.int .i64 4))))])
        .ret)
        (.seq (.reg [.r 30 (.mv (.t 1)),
           .r 31 (.mkfn 85 [.t 2]),
           .c 32 (.f 84) [.t 30, .t 31],
           .r 29 (.mv (.t 32))])
        (.cond (.t 29)
          (.seq (.reg [.r 4 (.mv (.c (.d (.int .i64 7))))])
          .ret)
          (.seq (.reg (.r 34 (.fld 2 (.t 2)) :: .o 35 (.ld1 (.t 34)) :: .r 36 (.mv (.t 35)) :: gapp [37, 38, 39, 40, 41, 42] 36 true (.r 37 (.fld 1 (.t 2)) :: .r 38 (.ld1 (.t 37)) :: .r 39 (.bin .neq (.t 38) (.c (.d (.int .i64 3)))) :: .r 40 (.mv (.t 39)) :: gapp [41] 40 false (.r 41 (.mv (.t 5)) :: []) (.r 42 (.pick (.t 40) (.c (.d (.bool true))) (.t 41)) :: [])) (.r 43 (.pick (.t 36) (.t 42) (.c (.d (.bool false)))) :: .r 33 (.mv (.t 43)) :: [])))
          (.cond (.t 33)
            (.seq (.reg [.r 4 (.mv (.c (.d (.int .i64 12))))])
            .ret)
            .skip)))))))))
  (.seq (.seq (.reg [.r 44 (.fld 3 (.t 2)),
     .o 45 (.ld1 (.t 44)),
     .c 46 (.f 86) [.t 45],
     .r 6 (.mv (.t 46))])
  (.seq (.reg [.r 47 (.mv (.t 6)),
     .r 48 (.bin .neq (.t 47) (.c (.d (.int .i64 0))))])
  (.cond (.t 48)
    (.seq (.reg [.r 49 (.mv (.t 6)),
       .r 4 (.mv (.t 49))])
    .ret)
    .skip)))
  (.seq (.seq (.reg [.r 50 (.fld 4 (.t 2)),
     .o 51 (.ld1 (.t 50)),
     .r 52 (.len (.t 51)),
     .r 53 (.bin .gtr (.t 52) (.c (.d (.int .i64 200))))])
  (.cond (.t 53)
    (.seq (.reg [.r 4 (.mv (.c (.d (.int .i64 2))))])
    .ret)
    .skip))
  (.seq (.seq (.reg [.r 54 (.fld 4 (.t 2)),
     .o 55 (.ld1 (.t 54)),
     .r 56 (.len (.t 55)),
     .r 57 (.mv (.c (.d (.int .i64 0))))])
  sc_reply_messageFault_B1)
  (.seq (.seq (.reg (.r 78 (.fld 1 (.t 2)) :: .o 79 (.ld1 (.t 78)) :: .r 80 (.bin .eql (.t 79) (.c (.d (.int .i64 1)))) :: .r 81 (.mv (.t 80)) :: gapp [82] 81 true (.r 82 (.mv (.t 5)) :: []) (.r 83 (.pick (.t 81) (.t 82) (.c (.d (.bool false)))) :: [])))
  (.cond (.t 83)
    (.seq (.reg [.r 4 (.mv (.c (.d (.int .i64 12))))])
    .ret)
    .skip))
  (.seq (.reg [.r 4 (.mv (.c (.d (.int .i64 0))))])
  .ret))))))))
theorem fit_reply_messageFault : fits Tryz.prog 58 Tryz.f58 sc_reply_messageFault [.t 4] 2 = true := by kernel_rfl

def sc_reply_verdictOfGroup_L1 : SC :=
  (.seq (.reg [.r 10 (.bin .lss (.t 9) (.t 8))])
  (.seq (.cond (.t 10)
    .skip
    (.exit 0))
  (.seq (.block 1 (.seq (.reg [.r 11 (.idx 5 (.t 7) (.t 9)),
       .o 12 (.ldA 5 (.t 11)),
       .w 5 (.boxM (.c (.agg [.d (.str []), .d (.int .i64 0), .d (.bool false), .nils, .nils]))),
       .w 0 (.st 5 (.t 5) (.t 12))])
    (.reg [.r 13 (.mv (.t 3)),
       .r 14 (.fld 1 (.t 5)),
       .o 15 (.ld1 (.t 14)),
       .r 16 (.bslice 1 [.t 15]),
       .w 17 (.app 3 1 (.t 13) (.t 16)),
       .r 3 (.mv (.t 17))])))
  (.reg [.r 18 (.bin .add (.t 9) (.c (.d (.int .i64 1)))),
     .r 9 (.mv (.t 18))]))))
def sc_reply_verdictOfGroup_B1 : SC := .block 0 (.loop sc_reply_verdictOfGroup_L1)
/-- interchange/reply.verdictOfGroup -/
def sc_reply_verdictOfGroup : SC :=
  (.seq (.reg [.r 1 (.boxI (.t 0)),
     .r 2 (.mv (.c (.d (.int .i64 0))))])
  (.seq (.reg [.r 3 (.mv (.c (.nils)))])
  (.seq (.seq (.reg [.r 6 (.fld 2 (.t 1)),
     .o 7 (.ld1 (.t 6)),
     .r 8 (.len (.t 7)),
     .r 9 (.mv (.c (.d (.int .i64 0))))])
  sc_reply_verdictOfGroup_B1)
  (.seq (.reg [.r 19 (.mv (.t 3)),
     .c 20 (.f 60) [.t 19],
     .r 2 (.mv (.t 20))])
  .ret))))
theorem fit_reply_verdictOfGroup : fits Tryz.prog 59 Tryz.f59 sc_reply_verdictOfGroup [.t 2] 1 = true := by kernel_rfl

def sc_reply_verdictOf_L1 : SC :=
  (.seq (.reg [.r 10 (.bin .lss (.t 9) (.t 8))])
  (.seq (.cond (.t 10)
    .skip
    (.exit 0))
  (.seq (.block 1 (.seq (.reg [.r 11 (.idx 3 (.t 7) (.t 9)),
       .o 12 (.ldA 3 (.t 11)),
       .w 5 (.boxM (.c (.agg [.d (.str []), .d (.int .i64 0), .nils]))),
       .w 0 (.st 3 (.t 5) (.t 12))])
    (.reg [.r 13 (.mv (.t 3)),
       .r 14 (.fld 1 (.t 5)),
       .o 15 (.ld1 (.t 14)),
       .r 16 (.bslice 1 [.t 15]),
       .w 17 (.app 3 1 (.t 13) (.t 16)),
       .r 3 (.mv (.t 17))])))
  (.reg [.r 18 (.bin .add (.t 9) (.c (.d (.int .i64 1)))),
     .r 9 (.mv (.t 18))]))))
def sc_reply_verdictOf_B1 : SC := .block 0 (.loop sc_reply_verdictOf_L1)
/-- interchange/reply.verdictOf -/
def sc_reply_verdictOf : SC :=
  (.seq (.reg [.r 1 (.boxI (.t 0)),
     .r 2 (.mv (.c (.d (.int .i64 0))))])
  (.seq (.reg [.r 3 (.mv (.c (.nils)))])
  (.seq (.seq (.reg [.r 6 (.fld 2 (.t 1)),
     .o 7 (.ld1 (.t 6)),
     .r 8 (.len (.t 7)),
     .r 9 (.mv (.c (.d (.int .i64 0))))])
  sc_reply_verdictOf_B1)
  (.seq (.reg [.r 19 (.mv (.t 3)),
     .c 20 (.f 60) [.t 19],
     .r 2 (.mv (.t 20))])
  .ret))))
theorem fit_reply_verdictOf : fits Tryz.prog 31 Tryz.f31 sc_reply_verdictOf [.t 2] 1 = true := by kernel_rfl

def sc_interchangeref7_checkGroup_L1 : SC :=
  (.seq (.seq (.reg [.r 21 (.mv (.t 6)),
     .r 22 (.mv (.t 1)),
     .r 23 (.bin .lss (.t 21) (.t 22))])
  (.cond (.t 23)
    .skip
    (.exit 0)))
  (.seq (.block 1 (.seq (.regD [.r 26 (.mv (.t 0)),
       .r 27 (.mv (.t 6)),
       .r 28 (.idx 3 (.t 26) (.t 27)),
       .r 29 (.fld 0 (.t 28)),
       .r 30 (.ld1 (.t 29)),
       .r 31 (.fld 0 (.t 5)),
       .r 32 (.ld1 (.t 31)),
       .r 33 (.bin .eql (.t 30) (.t 32))])
    (.cond (.t 33)
      (.seq (.reg [.r 4 (.mv (.c (.d (.int .i64 7))))])
      .ret)
      .skip)))
  (.reg [.r 24 (.mv (.t 6)),
     .r 25 (.bin .add (.t 24) (.c (.d (.int .i64 1)))),
     .r 6 (.mv (.t 25))])))
def sc_interchangeref7_checkGroup_B1 : SC := .block 0 (.loop sc_interchangeref7_checkGroup_L1)
def sc_interchangeref7_checkGroup_L2 : SC :=
  (.seq (.seq (.reg [.r 34 (.mv (.t 7)),
     .r 35 (.fld 2 (.t 5)),
     .o 36 (.ld1 (.t 35)),
     .r 37 (.len (.t 36)),
     .r 38 (.bin .lss (.t 34) (.t 37))])
  (.cond (.t 38)
    .skip
    (.exit 2)))
  (.seq (.block 3 (.seq (.reg [.r 41 (.fld 2 (.t 5)),
       .o 42 (.ld1 (.t 41)),
       .r 43 (.mv (.t 7)),
       .c 44 (.f 65) [.t 42, .t 43],
       .r 8 (.mv (.t 44))])
    (.seq (.reg [.r 45 (.mv (.t 8)),
       .r 46 (.bin .neq (.t 45) (.c (.d (.int .i64 0))))])
    (.cond (.t 46)
      (.seq (.reg [.r 47 (.mv (.t 8)),
         .r 4 (.mv (.t 47))])
      .ret)
      .skip))))
  (.reg [.r 39 (.mv (.t 7)),
     .r 40 (.bin .add (.t 39) (.c (.d (.int .i64 1)))),
     .r 7 (.mv (.t 40))])))
def sc_interchangeref7_checkGroup_B2 : SC := .block 2 (.loop sc_interchangeref7_checkGroup_L2)
/-- interchange/interchangeref7.checkGroup -/
def sc_interchangeref7_checkGroup : SC :=
  (.seq (.reg [.r 4 (.mv (.c (.d (.int .i64 0))))])
  (.seq (.reg [.r 9 (.mv (.t 0)),
     .r 10 (.mv (.t 1)),
     .r 11 (.idx 3 (.t 9) (.t 10)),
     .o 12 (.ldA 3 (.t 11)),
     .w 5 (.boxM (.c (.agg [.d (.str []), .d (.int .i64 0), .nils]))),
     .w 0 (.st 3 (.t 5) (.t 12))])
  (.seq (.seq (.reg [.r 13 (.fld 0 (.t 5)),
     .o 14 (.ld1 (.t 13)),
     .c 15 (.f 37) [.t 14],
     .r 16 (.not (.t 15))])
  (.cond (.t 16)
    (.seq (.reg [.r 4 (.mv (.c (.d (.int .i64 3))))])
    .ret)
    .skip))
  (.seq (.seq (.reg [.r 17 (.fld 1 (.t 5)),
     .o 18 (.ld1 (.t 17)),
     .c 19 (.f 38) [.t 18],
     .r 20 (.not (.t 19))])
  (.cond (.t 20)
    (.seq (.reg [.r 4 (.mv (.c (.d (.int .i64 4))))])
    .ret)
    .skip))
  (.seq (.seq (.reg [.r 6 (.mv (.c (.d (.int .i64 0))))])
  sc_interchangeref7_checkGroup_B1)
  (.seq (.seq (.reg [.r 7 (.mv (.c (.d (.int .i64 0))))])
  sc_interchangeref7_checkGroup_B2)
  (.seq (.seq (.regD [.r 48 (.fld 1 (.t 5)),
     .r 49 (.ld1 (.t 48)),
     .r 50 (.ldA 3 (.t 5)),
     .c 51 (.f 66) [.t 50],
     .r 52 (.bin .neq (.t 49) (.t 51))])
  (.cond (.t 52)
    (.seq (.reg [.r 4 (.mv (.c (.d (.int .i64 12))))])
    .ret)
    .skip))
  (.seq (.reg [.r 4 (.mv (.c (.d (.int .i64 0))))])
  .ret))))))))
theorem fit_interchangeref7_checkGroup : fits Tryz.prog 39 Tryz.f39 sc_interchangeref7_checkGroup [.t 4] 2 = true := by kernel_rfl

set_option maxRecDepth 100000 in
set_option maxHeartbeats 40000000 in
noncomputable def sims_G5_3_0 : (∀ (x0 : Tapi_MessageReply) (x1 : List Tapi_MessageReply), {m : Option (Int) // ∀ r, m = some r → PureSpec Tryz.prog 58 [.agg (rTapi_MessageReply x0), .slice (List.map rTapi_MessageReply x1)] (.int .i64 r)}) × (∀ (x0 : Tapi_GroupReply), {m : Option (Int) // ∀ r, m = some r → PureSpec Tryz.prog 59 [.agg (rTapi_GroupReply x0)] (.int .i64 r)}) × (∀ (x0 : Tapi_Reply), {m : Option (Int) // ∀ r, m = some r → PureSpec Tryz.prog 31 [.agg (rTapi_Reply x0)] (.int .i64 r)}) × (∀ (x0 : List Tapi_GroupReply) (x1 : Int), {m : Option (Int) // ∀ r, m = some r → PureSpec Tryz.prog 39 [.slice (List.map rTapi_GroupReply x0), .int .i64 x1] (.int .i64 r)}) := by
  refine ⟨?g0, ?g1, ?g2, ?g3⟩
  case' g0 => (intro x0 x1; apply Subtype.mk; intro r hm; apply pure_walk Tryz.func58 fit_reply_messageFault; unfold sc_reply_messageFault)
  case' g1 => (intro x0; apply Subtype.mk; intro r hm; apply pure_walk Tryz.func59 fit_reply_verdictOfGroup; unfold sc_reply_verdictOfGroup)
  case' g2 => (intro x0; apply Subtype.mk; intro r hm; apply pure_walk Tryz.func31 fit_reply_verdictOf; unfold sc_reply_verdictOf)
  case' g3 => (intro x0 x1; apply Subtype.mk; intro r hm; apply pure_walk Tryz.func39 fit_interchangeref7_checkGroup; unfold sc_interchangeref7_checkGroup)
  all_goals (repeat' (first | with_reducible refine W_seq ?_ | with_reducible refine W_reg ?_ | with_reducible refine W_regD ?_ | with_reducible refine W_block ?_ | with_reducible refine W_skip ?_ | with_reducible refine W_ret ?_ | with_reducible refine W_exit ?_ | with_reducible refine O_nil ?_ | with_reducible refine K_seq ?_ | with_reducible refine K_seqE ?_ | with_reducible refine K_seqR ?_ | with_reducible refine K_block ?_ | with_reducible refine K_blockR ?_ | with_reducible refine O_o2r ?_ | ((with_reducible apply O_idxr hm); (iterate 2 (simp only [push_cast, seval]; rfl)); (intro _; rfl); intro e hm) | ((with_reducible apply O_r); (simp only [push_cast, seval]; rfl); (first | exact trivial)) | ((with_reducible apply O_and hm); (simp only [push_cast, seval]; rfl); rfl; intro v hm; rotate_left; intro v g hm) | ((with_reducible apply O_or hm); (simp only [push_cast, seval]; rfl); rfl; intro v hm; rotate_left; intro v g hm) | ((with_reducible apply O_cF hm); (simp only [push_cast, seval]; rfl); (first | apply spec_kit_IsRef _ | apply spec_reply_isVerdict _ | apply spec_slices_ContainsFunc_interchange_api_MessageReply_interchange_api_MessageReply _ _ _ _ (fun a0 r h => spec_reply_messageFault_1 a0 _ r h) | apply spec_reply_flawsFault _ | apply spec_kit_IsName _ | apply spec_interchangeref2_IsReference _ | apply spec_interchangeref7_isVerdict _ | apply spec_interchangeref7_checkMessage _ _ | apply spec_interchangeref7_OfGroup _); (any_goals ((repeat' (first | rfl)); done)); intro x hm) | ((with_reducible apply O_clS hm); (simp only [push_cast, seval]; rfl); (focus (first | exact spec_reply_together _)); (intro _; rfl); intro x hm) | ((with_reducible apply O_w); (simp only [push_cast, seval]; rfl); (first | exact trivial)) | ((with_reducible apply O_appV hm); (iterate 4 (simp only [push_cast, seval]; rfl)); (focus ((repeat' (first | rfl | (with_reducible first | apply dv_slice | apply fold_nil | apply fold_cons))); done)); decide; (intro _; rfl); intro hm) | ((with_reducible apply S_condB hm); (simp only [push_cast, seval]; rfl); intro hm; rotate_left; intro hm) | ((with_reducible apply K_endS hm); (focus (simp only [resOf, resL, RV.get, push_cast, seval]; rfl)); (focus ((repeat' (first | rfl)); done))) | ((with_reducible apply K_bool hm); (simp only [push_cast, seval]; rfl)) | ((with_reducible apply K_leave hm); intro r hm) | ((with_reducible apply K_leaveR hm); intro r hm) | ((apply S_loopY (b := 1) (X := sc_reply_messageFault_B1) (x := sc_reply_messageFault_L1) rfl (fun (c : SV × SV × SV × SV) (s : Int) => st [(2, c.1), (5, c.2.1), (55, c.2.2.1), (56, c.2.2.2), (57, .d (.int .i64 s))] []) (c := (_, _, _, _)) (s0 := _) hm); (focus (first | (dsimp only; done))); (with_reducible refine Then.mk ?_ ?_)) | ((apply S_loopY (b := 0) (X := sc_reply_verdictOfGroup_B1) (x := sc_reply_verdictOfGroup_L1) rfl (fun (c : SV × SV) (s : (List Int) × Int) => st [(3, .vec 3), (7, c.1), (8, c.2), (9, .d (.int .i64 s.2))] [(3, .vec 3 1 (vrow rowI s.1))]) (c := (_, _)) (s0 := (_, _)) hm); (focus (first | (dsimp only; done))); (with_reducible refine Then.mk ?_ ?_); apply Imp.trans; (focus (apply imp_vecnil (slot := 3) (id := 3) (e := 3) (sz := 1); (focus (simp only [push_cast, seval]; done))))) | ((apply S_loopY (b := 0) (X := sc_reply_verdictOf_B1) (x := sc_reply_verdictOf_L1) rfl (fun (c : SV × SV) (s : (List Int) × Int) => st [(3, .vec 3), (7, c.1), (8, c.2), (9, .d (.int .i64 s.2))] [(3, .vec 3 1 (vrow rowI s.1))]) (c := (_, _)) (s0 := (_, _)) hm); (focus (first | (dsimp only; done))); (with_reducible refine Then.mk ?_ ?_); apply Imp.trans; (focus (apply imp_vecnil (slot := 3) (id := 3) (e := 3) (sz := 1); (focus (simp only [push_cast, seval]; done))))) | ((apply S_loopY (b := 0) (X := sc_interchangeref7_checkGroup_B1) (x := sc_interchangeref7_checkGroup_L1) rfl (fun (c : SV × SV × Ch) (s : Int) => st [(0, c.1), (1, c.2.1), (5, .ref 5 0), (6, .d (.int .i64 s))] [(5, c.2.2)]) (c := (_, _, _)) (s0 := _) hm); (focus (first | (dsimp only; done))); (with_reducible refine Then.mk ?_ ?_)) | ((apply S_loopY (b := 2) (X := sc_interchangeref7_checkGroup_B2) (x := sc_interchangeref7_checkGroup_L2) rfl (fun (c : Ch) (s : Int) => st [(5, .ref 5 0), (7, .d (.int .i64 s))] [(5, c)]) (c := _) (s0 := _) hm); (focus (first | (dsimp only; done))); (with_reducible refine Then.mk ?_ ?_)) | ((apply K_next (s' := (_, _)) hm); (focus (first | (dsimp only; done)))) | ((apply K_brk (s' := (_, _)) hm); (focus (first | (dsimp only; done)))) | ((apply K_next (s' := _) hm); (focus (first | (dsimp only; done)))) | ((apply K_brk (s' := _) hm); (focus (first | (dsimp only; done)))) | (((with_reducible apply K_brkR hm); intro r hm)) | (((with_reducible apply LoopB.of); (focus (first | (dsimp only; done))); (focus ((intro _; repeat' (first | with_reducible exact impC_end | with_reducible refine impC_seq ?_)))); (intro s o hm; first | unfold sc_reply_messageFault_L1 | unfold sc_reply_verdictOfGroup_L1 | unfold sc_reply_verdictOf_L1 | unfold sc_interchangeref7_checkGroup_L1 | unfold sc_interchangeref7_checkGroup_L2); rotate_left; intro s hm)) | (((apply imp_stT; (repeat' (first | with_reducible exact keepT_nil | with_reducible exact keepC_nil | with_reducible apply keepT_cons | with_reducible apply keepC_cons | ((with_reducible apply svle_eq); (focus (first | (simp only [push_cast, seval]; rfl))); (focus ((repeat' (first | rfl)); done))) | ((with_reducible apply chle_eq); (focus (first | (simp only [push_cast, seval]; rfl))); (first | with_reducible exact chle_rfl rfl | with_reducible apply chle_vec)) | (with_reducible first | apply r_nil))); done)))))
noncomputable def m_reply_messageFault (x0 : Tapi_MessageReply) (x1 : List Tapi_MessageReply) : Option (Int) := (sims_G5_3_0.1 x0 x1).1
theorem spec_reply_messageFault (x0 : Tapi_MessageReply) (x1 : List Tapi_MessageReply) : ∀ r, m_reply_messageFault x0 x1 = some r → PureSpec Tryz.prog 58 [.agg (rTapi_MessageReply x0), .slice (List.map rTapi_MessageReply x1)] (.int .i64 r) := (sims_G5_3_0.1 x0 x1).2
noncomputable def m_reply_verdictOfGroup (x0 : Tapi_GroupReply) : Option (Int) := (sims_G5_3_0.2.1 x0).1
theorem spec_reply_verdictOfGroup (x0 : Tapi_GroupReply) : ∀ r, m_reply_verdictOfGroup x0 = some r → PureSpec Tryz.prog 59 [.agg (rTapi_GroupReply x0)] (.int .i64 r) := (sims_G5_3_0.2.1 x0).2
noncomputable def m_reply_verdictOf (x0 : Tapi_Reply) : Option (Int) := (sims_G5_3_0.2.2.1 x0).1
theorem spec_reply_verdictOf (x0 : Tapi_Reply) : ∀ r, m_reply_verdictOf x0 = some r → PureSpec Tryz.prog 31 [.agg (rTapi_Reply x0)] (.int .i64 r) := (sims_G5_3_0.2.2.1 x0).2
noncomputable def m_interchangeref7_checkGroup (x0 : List Tapi_GroupReply) (x1 : Int) : Option (Int) := (sims_G5_3_0.2.2.2 x0 x1).1
theorem spec_interchangeref7_checkGroup (x0 : List Tapi_GroupReply) (x1 : Int) : ∀ r, m_interchangeref7_checkGroup x0 x1 = some r → PureSpec Tryz.prog 39 [.slice (List.map rTapi_GroupReply x0), .int .i64 x1] (.int .i64 r) := (sims_G5_3_0.2.2.2 x0 x1).2

def sc_reply_groupFault_L1 : SC :=
  (.seq (.reg [.r 26 (.bin .lss (.t 25) (.t 24))])
  (.seq (.cond (.t 26)
    .skip
    (.exit 1))
  (.seq (.block 2 (.seq (.reg [.r 27 (.mv (.t 25)),
       .r 28 (.idx 5 (.t 23) (.t 25)),
       .o 29 (.ldA 5 (.t 28)),
       .w 6 (.boxM (.c (.agg [.d (.str []), .d (.int .i64 0), .d (.bool false), .nils, .nils]))),
       .r 5 (.mv (.t 27)),
       .w 0 (.st 5 (.t 6) (.t 29))])
    (.seq (.regD [.r 30 (.ldA 5 (.t 6)),
       .r 31 (.fld 2 (.t 2)),
       .r 32 (.ld1 (.t 31)),
       .r 33 (.mv (.t 5)),
       .r 34 (.slc 5 (.t 32) none (some (.t 33))),
       .c 35 (.f 58) [.t 30, .t 34],
       .r 7 (.mv (.t 35))])
    (.seq (.reg [.r 36 (.mv (.t 7)),
       .r 37 (.bin .neq (.t 36) (.c (.d (.int .i64 0))))])
    (.cond (.t 37)
      (.seq (.reg [.r 38 (.mv (.t 7)),
         .r 4 (.mv (.t 38))])
      .ret)
      .skip)))))
  (.reg [.r 39 (.bin .add (.t 25) (.c (.d (.int .i64 1)))),
     .r 25 (.mv (.t 39))]))))
def sc_reply_groupFault_B1 : SC := .block 1 (.loop sc_reply_groupFault_L1)
/-- interchange/reply.groupFault -/
def sc_reply_groupFault : SC :=
  (.seq (.reg [.r 2 (.boxI (.t 0)),
     .r 4 (.mv (.c (.d (.int .i64 0))))])
  (.seq (.block 0 (.seq (.reg [.r 9 (.fld 0 (.t 2)),
       .o 10 (.ld1 (.t 9)),
       .c 11 (.f 28) [.t 10],
       .r 12 (.not (.t 11)),
       .r 8 (.mv (.t 12))])
    (.cond (.t 8)
      (.seq (.reg [.r 4 (.mv (.c (.d (.int .i64 3))))])
      .ret)
      (.seq (.reg [.r 14 (.fld 1 (.t 2)),
         .o 15 (.ld1 (.t 14)),
         .c 16 (.f 29) [.t 15],
         .r 17 (.not (.t 16)),
         .r 13 (.mv (.t 17))])
      (.cond (.t 13)
        (.seq (.reg [.r 4 (.mv (.c (.d (.int .i64 4))))])
        .ret)
        (.seq (.reg [.r 19 (.mv (.t 1)),
           .r 20 (.mkfn 57 [.t 2]),
           .c 21 (.f 56) [.t 19, .t 20],
           .r 18 (.mv (.t 21))])
        (.cond (.t 18)
          (.seq (.reg [.r 4 (.mv (.c (.d (.int .i64 7))))])
          .ret)
          .skip)))))))
  (.seq (.seq (.reg [.r 22 (.fld 2 (.t 2)),
     .o 23 (.ld1 (.t 22)),
     .r 24 (.len (.t 23)),
     .r 25 (.mv (.c (.d (.int .i64 0))))])
  sc_reply_groupFault_B1)
  (.seq (.seq (.regD [.r 40 (.ldA 3 (.t 2)),
     .c 41 (.f 59) [.t 40],
     .r 42 (.fld 1 (.t 2)),
     .r 43 (.ld1 (.t 42)),
     .r 44 (.bin .neq (.t 41) (.t 43))])
  (.cond (.t 44)
    (.seq (.reg [.r 4 (.mv (.c (.d (.int .i64 12))))])
    .ret)
    .skip))
  (.seq (.reg [.r 4 (.mv (.c (.d (.int .i64 0))))])
  .ret)))))
theorem fit_reply_groupFault : fits Tryz.prog 30 Tryz.f30 sc_reply_groupFault [.t 4] 2 = true := by kernel_rfl

def sc_interchangeref7_CheckReply_L1 : SC :=
  (.seq (.seq (.reg [.r 18 (.mv (.t 4)),
     .r 19 (.fld 2 (.t 1)),
     .o 20 (.ld1 (.t 19)),
     .r 21 (.len (.t 20)),
     .r 22 (.bin .lss (.t 18) (.t 21))])
  (.cond (.t 22)
    .skip
    (.exit 0)))
  (.seq (.block 1 (.seq (.seq (.reg [.r 25 (.fld 2 (.t 1)),
       .o 26 (.ld1 (.t 25)),
       .r 27 (.mv (.t 4)),
       .c 28 (.f 39) [.t 26, .t 27],
       .r 5 (.mv (.t 28))])
    (.seq (.reg [.r 29 (.mv (.t 5)),
       .r 30 (.bin .neq (.t 29) (.c (.d (.int .i64 0))))])
    (.cond (.t 30)
      (.seq (.reg [.r 31 (.mv (.t 5)),
         .r 2 (.mv (.t 31))])
      .ret)
      .skip)))
    (.reg [.r 32 (.mv (.t 3)),
       .r 33 (.fld 2 (.t 1)),
       .o 34 (.ld1 (.t 33)),
       .r 35 (.mv (.t 4)),
       .r 36 (.idx 3 (.t 34) (.t 35)),
       .r 37 (.fld 2 (.t 36)),
       .o 38 (.ld1 (.t 37)),
       .r 39 (.len (.t 38)),
       .r 40 (.bin .add (.t 32) (.t 39)),
       .r 3 (.mv (.t 40))])))
  (.reg [.r 23 (.mv (.t 4)),
     .r 24 (.bin .add (.t 23) (.c (.d (.int .i64 1)))),
     .r 4 (.mv (.t 24))])))
def sc_interchangeref7_CheckReply_B1 : SC := .block 0 (.loop sc_interchangeref7_CheckReply_L1)
/-- interchange/interchangeref7.CheckReply -/
def sc_interchangeref7_CheckReply : SC :=
  (.seq (.reg [.r 1 (.boxI (.t 0)),
     .r 2 (.mv (.c (.d (.int .i64 0))))])
  (.seq (.seq (.reg [.r 6 (.fld 0 (.t 1)),
     .o 7 (.ld1 (.t 6)),
     .c 8 (.f 37) [.t 7],
     .r 9 (.not (.t 8))])
  (.cond (.t 9)
    (.seq (.reg [.r 2 (.mv (.c (.d (.int .i64 3))))])
    .ret)
    .skip))
  (.seq (.seq (.reg [.r 10 (.fld 1 (.t 1)),
     .o 11 (.ld1 (.t 10)),
     .c 12 (.f 38) [.t 11],
     .r 13 (.not (.t 12))])
  (.cond (.t 13)
    (.seq (.reg [.r 2 (.mv (.c (.d (.int .i64 4))))])
    .ret)
    .skip))
  (.seq (.seq (.reg [.r 14 (.fld 2 (.t 1)),
     .o 15 (.ld1 (.t 14)),
     .r 16 (.len (.t 15)),
     .r 17 (.bin .gtr (.t 16) (.c (.d (.int .i64 50))))])
  (.cond (.t 17)
    (.seq (.reg [.r 2 (.mv (.c (.d (.int .i64 2))))])
    .ret)
    .skip))
  (.seq (.reg [.r 3 (.mv (.c (.d (.int .i64 0))))])
  (.seq (.seq (.reg [.r 4 (.mv (.c (.d (.int .i64 0))))])
  sc_interchangeref7_CheckReply_B1)
  (.seq (.seq (.reg [.r 41 (.mv (.t 3)),
     .r 42 (.bin .gtr (.t 41) (.c (.d (.int .i64 200))))])
  (.cond (.t 42)
    (.seq (.reg [.r 2 (.mv (.c (.d (.int .i64 2))))])
    .ret)
    .skip))
  (.seq (.seq (.regD [.r 43 (.fld 1 (.t 1)),
     .r 44 (.ld1 (.t 43)),
     .r 45 (.ldA 3 (.t 1)),
     .c 46 (.f 40) [.t 45],
     .r 47 (.bin .neq (.t 44) (.t 46))])
  (.cond (.t 47)
    (.seq (.reg [.r 2 (.mv (.c (.d (.int .i64 12))))])
    .ret)
    .skip))
  (.seq (.reg [.r 2 (.mv (.c (.d (.int .i64 0))))])
  .ret)))))))))
theorem fit_interchangeref7_CheckReply : fits Tryz.prog 16 Tryz.f16 sc_interchangeref7_CheckReply [.t 2] 1 = true := by kernel_rfl

set_option maxRecDepth 100000 in
set_option maxHeartbeats 40000000 in
noncomputable def sims_G5_4_0 : (∀ (x0 : Tapi_GroupReply) (x1 : List Tapi_GroupReply), {m : Option (Int) // ∀ r, m = some r → PureSpec Tryz.prog 30 [.agg (rTapi_GroupReply x0), .slice (List.map rTapi_GroupReply x1)] (.int .i64 r)}) × (∀ (x0 : Tapi_Reply), {m : Option (Int) // ∀ r, m = some r → PureSpec Tryz.prog 16 [.agg (rTapi_Reply x0)] (.int .i64 r)}) := by
  refine ⟨?g0, ?g1⟩
  case' g0 => (intro x0 x1; apply Subtype.mk; intro r hm; apply pure_walk Tryz.func30 fit_reply_groupFault; unfold sc_reply_groupFault)
  case' g1 => (intro x0; apply Subtype.mk; intro r hm; apply pure_walk Tryz.func16 fit_interchangeref7_CheckReply; unfold sc_interchangeref7_CheckReply)
  all_goals (repeat' (first | with_reducible refine W_seq ?_ | with_reducible refine W_reg ?_ | with_reducible refine W_regD ?_ | with_reducible refine W_block ?_ | with_reducible refine W_skip ?_ | with_reducible refine W_ret ?_ | with_reducible refine W_exit ?_ | with_reducible refine O_nil ?_ | with_reducible refine K_seq ?_ | with_reducible refine K_seqE ?_ | with_reducible refine K_seqR ?_ | with_reducible refine K_block ?_ | with_reducible refine K_blockR ?_ | with_reducible refine O_o2r ?_ | ((with_reducible apply O_idxr hm); (iterate 2 (simp only [push_cast, seval]; rfl)); (intro _; rfl); intro e hm) | ((with_reducible apply O_slcr hm); (iterate 3 (simp only [push_cast, seval]; rfl)); (intro _; rfl); intro e hm) | ((with_reducible apply O_r); (simp only [push_cast, seval]; rfl); (first | exact trivial)) | ((with_reducible apply O_cF hm); (simp only [push_cast, seval]; rfl); (first | apply spec_kit_IsRef _ | apply spec_reply_isVerdict _ | apply spec_slices_ContainsFunc_interchange_api_GroupReply_interchange_api_GroupReply _ _ _ _ (fun a0 r h => spec_reply_groupFault_1 a0 _ r h) | apply spec_reply_messageFault _ _ | apply spec_reply_verdictOfGroup _ | apply spec_interchangeref2_IsReference _ | apply spec_interchangeref7_isVerdict _ | apply spec_interchangeref7_checkGroup _ _ | apply spec_interchangeref7_OfAll _); (any_goals ((repeat' (first | rfl)); done)); intro x hm) | ((with_reducible apply O_w); (simp only [push_cast, seval]; rfl); (first | exact trivial)) | ((with_reducible apply S_condB hm); (simp only [push_cast, seval]; rfl); intro hm; rotate_left; intro hm) | ((with_reducible apply K_endS hm); (focus (simp only [resOf, resL, RV.get, push_cast, seval]; rfl)); (focus ((repeat' (first | rfl)); done))) | ((with_reducible apply K_leave hm); intro r hm) | ((with_reducible apply K_leaveR hm); intro r hm) | ((apply S_loopY (b := 1) (X := sc_reply_groupFault_B1) (x := sc_reply_groupFault_L1) rfl (fun (c : SV × SV × SV) (s : Int) => st [(2, c.1), (23, c.2.1), (24, c.2.2), (25, .d (.int .i64 s))] []) (c := (_, _, _)) (s0 := _) hm); (focus (first | (dsimp only; done))); (with_reducible refine Then.mk ?_ ?_)) | ((apply S_loopY (b := 0) (X := sc_interchangeref7_CheckReply_B1) (x := sc_interchangeref7_CheckReply_L1) rfl (fun (c : SV) (s : Int × Int) => st [(1, c), (3, .d (.int .i64 s.1)), (4, .d (.int .i64 s.2))] []) (c := _) (s0 := (_, _)) hm); (focus (first | (dsimp only; done))); (with_reducible refine Then.mk ?_ ?_)) | ((apply K_next (s' := (_, _)) hm); (focus (first | (dsimp only; done)))) | ((apply K_brk (s' := (_, _)) hm); (focus (first | (dsimp only; done)))) | ((apply K_next (s' := _) hm); (focus (first | (dsimp only; done)))) | ((apply K_brk (s' := _) hm); (focus (first | (dsimp only; done)))) | (((with_reducible apply K_brkR hm); intro r hm)) | (((with_reducible apply LoopB.of); (focus (first | (dsimp only; done))); (focus ((intro _; repeat' (first | with_reducible exact impC_end | with_reducible refine impC_seq ?_)))); (intro s o hm; first | unfold sc_reply_groupFault_L1 | unfold sc_interchangeref7_CheckReply_L1); rotate_left; intro s hm)) | (((apply imp_stT; (repeat' (first | with_reducible exact keepT_nil | with_reducible exact keepC_nil | with_reducible apply keepT_cons | ((with_reducible apply svle_eq); (focus (first | (simp only [push_cast, seval]; rfl))); (focus ((repeat' (first | rfl)); done))))); done)))))
noncomputable def m_reply_groupFault (x0 : Tapi_GroupReply) (x1 : List Tapi_GroupReply) : Option (Int) := (sims_G5_4_0.1 x0 x1).1
theorem spec_reply_groupFault (x0 : Tapi_GroupReply) (x1 : List Tapi_GroupReply) : ∀ r, m_reply_groupFault x0 x1 = some r → PureSpec Tryz.prog 30 [.agg (rTapi_GroupReply x0), .slice (List.map rTapi_GroupReply x1)] (.int .i64 r) := (sims_G5_4_0.1 x0 x1).2
def sc_reply_CheckReply_L1 : SC :=
  (.seq (.reg [.r 26 (.bin .lss (.t 25) (.t 24))])
  (.seq (.cond (.t 26)
    .skip
    (.exit 1))
  (.seq (.block 2 (.seq (.reg [.r 27 (.mv (.t 25)),
       .r 28 (.idx 3 (.t 23) (.t 25)),
       .o 29 (.ldA 3 (.t 28)),
       .w 5 (.boxM (.c (.agg [.d (.str []), .d (.int .i64 0), .nils]))),
       .r 4 (.mv (.t 27)),
       .w 0 (.st 3 (.t 5) (.t 29))])
    (.seq (.seq (.regD [.r 30 (.ldA 3 (.t 5)),
       .r 31 (.fld 2 (.t 1)),
       .r 32 (.ld1 (.t 31)),
       .r 33 (.mv (.t 4)),
       .r 34 (.slc 3 (.t 32) none (some (.t 33))),
       .c 35 (.f 30) [.t 30, .t 34],
       .r 6 (.mv (.t 35))])
    (.seq (.reg [.r 36 (.mv (.t 6)),
       .r 37 (.bin .neq (.t 36) (.c (.d (.int .i64 0))))])
    (.cond (.t 37)
      (.seq (.reg [.r 38 (.mv (.t 6)),
         .r 2 (.mv (.t 38))])
      .ret)
      .skip)))
    (.reg [.r 39 (.mv (.t 3)),
       .r 40 (.fld 2 (.t 5)),
       .o 41 (.ld1 (.t 40)),
       .r 42 (.len (.t 41)),
       .r 43 (.bin .add (.t 39) (.t 42)),
       .r 3 (.mv (.t 43))]))))
  (.reg [.r 44 (.bin .add (.t 25) (.c (.d (.int .i64 1)))),
     .r 25 (.mv (.t 44))]))))
def sc_reply_CheckReply_B1 : SC := .block 1 (.loop sc_reply_CheckReply_L1)
/-- interchange/reply.CheckReply -/
def sc_reply_CheckReply : SC :=
  (.seq (.reg [.r 1 (.boxI (.t 0)),
     .r 2 (.mv (.c (.d (.int .i64 0))))])
  (.seq (.block 0 (.seq (.reg [.r 8 (.fld 0 (.t 1)),
       .o 9 (.ld1 (.t 8)),
       .c 10 (.f 28) [.t 9],
       .r 11 (.not (.t 10)),
       .r 7 (.mv (.t 11))])
    (.cond (.t 7)
      (.seq (.reg [.r 2 (.mv (.c (.d (.int .i64 3))))])
      .ret)
      (.seq (.reg [.r 13 (.fld 1 (.t 1)),
         .o 14 (.ld1 (.t 13)),
         .c 15 (.f 29) [.t 14],
         .r 16 (.not (.t 15)),
         .r 12 (.mv (.t 16))])
      (.cond (.t 12)
        (.seq (.reg [.r 2 (.mv (.c (.d (.int .i64 4))))])
        .ret)
        (.seq (.reg [.r 18 (.fld 2 (.t 1)),
           .o 19 (.ld1 (.t 18)),
           .r 20 (.len (.t 19)),
           .r 21 (.bin .gtr (.t 20) (.c (.d (.int .i64 50)))),
           .r 17 (.mv (.t 21))])
        (.cond (.t 17)
          (.seq (.reg [.r 2 (.mv (.c (.d (.int .i64 2))))])
          .ret)
          .skip)))))))
  (.seq (.reg [.r 3 (.mv (.c (.d (.int .i64 0))))])
  (.seq (.seq (.reg [.r 22 (.fld 2 (.t 1)),
     .o 23 (.ld1 (.t 22)),
     .r 24 (.len (.t 23)),
     .r 25 (.mv (.c (.d (.int .i64 0))))])
  sc_reply_CheckReply_B1)
  (.seq (.seq (.reg [.r 45 (.mv (.t 3)),
     .r 46 (.bin .gtr (.t 45) (.c (.d (.int .i64 200))))])
  (.cond (.t 46)
    (.seq (.reg [.r 2 (.mv (.c (.d (.int .i64 2))))])
    .ret)
    .skip))
  (.seq (.seq (.regD [.r 47 (.ldA 3 (.t 1)),
     .c 48 (.f 31) [.t 47],
     .r 49 (.fld 1 (.t 1)),
     .r 50 (.ld1 (.t 49)),
     .r 51 (.bin .neq (.t 48) (.t 50))])
  (.cond (.t 51)
    (.seq (.reg [.r 2 (.mv (.c (.d (.int .i64 12))))])
    .ret)
    .skip))
  (.seq (.reg [.r 2 (.mv (.c (.d (.int .i64 0))))])
  .ret)))))))
theorem fit_reply_CheckReply : fits Tryz.prog 13 Tryz.f13 sc_reply_CheckReply [.t 2] 1 = true := by kernel_rfl

set_option maxRecDepth 100000 in
set_option maxHeartbeats 40000000 in
noncomputable def sims_G5_5_0 : (∀ (x0 : Tapi_Reply), {m : Option (Int) // ∀ r, m = some r → PureSpec Tryz.prog 13 [.agg (rTapi_Reply x0)] (.int .i64 r)}) := by
  (intro x0; apply Subtype.mk; intro r hm; apply pure_walk Tryz.func13 fit_reply_CheckReply; unfold sc_reply_CheckReply)
  repeat' (first | with_reducible refine W_seq ?_ | with_reducible refine W_reg ?_ | with_reducible refine W_regD ?_ | with_reducible refine W_block ?_ | with_reducible refine W_skip ?_ | with_reducible refine W_ret ?_ | with_reducible refine W_exit ?_ | with_reducible refine O_nil ?_ | with_reducible refine K_seq ?_ | with_reducible refine K_seqE ?_ | with_reducible refine K_seqR ?_ | with_reducible refine K_block ?_ | with_reducible refine K_blockR ?_ | with_reducible refine O_o2r ?_ | ((with_reducible apply O_idxr hm); (iterate 2 (simp only [push_cast, seval]; rfl)); (intro _; rfl); intro e hm) | ((with_reducible apply O_slcr hm); (iterate 3 (simp only [push_cast, seval]; rfl)); (intro _; rfl); intro e hm) | ((with_reducible apply O_r); (simp only [push_cast, seval]; rfl); (first | exact trivial)) | ((with_reducible apply O_cF hm); (simp only [push_cast, seval]; rfl); (first | apply spec_kit_IsRef _ | apply spec_reply_isVerdict _ | apply spec_reply_groupFault _ _ | apply spec_reply_verdictOf _); (any_goals ((repeat' (first | rfl)); done)); intro x hm) | ((with_reducible apply O_w); (simp only [push_cast, seval]; rfl); (first | exact trivial)) | ((with_reducible apply S_condB hm); (simp only [push_cast, seval]; rfl); intro hm; rotate_left; intro hm) | ((with_reducible apply K_endS hm); (focus (simp only [resOf, resL, RV.get, push_cast, seval]; rfl)); (focus ((repeat' (first | rfl)); done))) | ((with_reducible apply K_leave hm); intro r hm) | ((with_reducible apply K_leaveR hm); intro r hm) | ((apply S_loopY (b := 1) (X := sc_reply_CheckReply_B1) (x := sc_reply_CheckReply_L1) rfl (fun (c : SV × SV × SV) (s : Int × Int) => st [(1, c.1), (3, .d (.int .i64 s.1)), (23, c.2.1), (24, c.2.2), (25, .d (.int .i64 s.2))] []) (c := (_, _, _)) (s0 := (_, _)) hm); (focus (first | (dsimp only; done))); (with_reducible refine Then.mk ?_ ?_)) | ((apply K_next (s' := (_, _)) hm); (focus (first | (dsimp only; done)))) | ((apply K_brk (s' := (_, _)) hm); (focus (first | (dsimp only; done)))) | (((with_reducible apply K_brkR hm); intro r hm)) | (((with_reducible apply LoopB.of); (focus (first | (dsimp only; done))); (focus ((intro _; repeat' (first | with_reducible exact impC_end | with_reducible refine impC_seq ?_)))); (intro s o hm; first | unfold sc_reply_CheckReply_L1); rotate_left; intro s hm)) | (((apply imp_stT; (repeat' (first | with_reducible exact keepT_nil | with_reducible exact keepC_nil | with_reducible apply keepT_cons | ((with_reducible apply svle_eq); (focus (first | (simp only [push_cast, seval]; rfl))); (focus ((repeat' (first | rfl)); done))))); done))))
noncomputable def m_reply_CheckReply (x0 : Tapi_Reply) : Option (Int) := (sims_G5_5_0 x0).1
theorem spec_reply_CheckReply (x0 : Tapi_Reply) : ∀ r, m_reply_CheckReply x0 = some r → PureSpec Tryz.prog 13 [.agg (rTapi_Reply x0)] (.int .i64 r) := (sims_G5_5_0 x0).2

end Go.Proofs.YtcbdpjgejbcpgaaGreatDoor

/-
  Bodies of functions and what they compute, printed by programs of mine (wip/tool/gen.py, sc.py) out of the translation; the kernel holds each against the translation.
-/
namespace Go.Proofs.YtcbdpjgejbcpgaaGreatDoor
open Go.RowKit
set_option linter.unusedSimpArgs false
set_option linter.unusedVariables false
def sc_reply_plain_L1 : SC :=
  (.seq (.reg [.r 11 (.bin .lss (.t 10) (.t 9))])
  (.seq (.cond (.t 11)
    .skip
    (.exit 0))
  (.seq (.block 1 (.seq (.reg [.r 12 (.idx 1 (.t 8) (.t 10)),
       .o 13 (.ldA 1 (.t 12)),
       .w 6 (.boxM (.c (.agg [.nils]))),
       .w 0 (.st 1 (.t 6) (.t 13))])
    (.seq (.seq (.reg (.r 14 (.fld 0 (.t 6)) :: .o 15 (.ld1 (.t 14)) :: .r 16 (.len (.t 15)) :: .r 17 (.bin .neq (.t 16) (.c (.d (.int .i64 1)))) :: .r 18 (.mv (.t 17)) :: gapp [19, 20, 21, 22, 23, 24] 18 false (.r 19 (.fld 0 (.t 6)) :: .r 20 (.ld1 (.t 19)) :: .r 21 (.idx 1 (.t 20) (.c (.d (.int .i64 0)))) :: .r 22 (.ld1 (.t 21)) :: .r 23 (.len (.t 22)) :: .r 24 (.bin .neq (.t 23) (.c (.d (.int .i64 1)))) :: []) (.r 25 (.pick (.t 18) (.c (.d (.bool true))) (.t 24)) :: [])))
    (.cond (.t 25)
      (.seq (.reg [.r 2 (.mv (.c (.nils))),
         .r 3 (.mv (.c (.d (.bool false))))])
      .ret)
      .skip))
    (.reg [.r 26 (.mv (.t 4)),
       .r 27 (.fld 0 (.t 6)),
       .o 28 (.ld1 (.t 27)),
       .r 29 (.idx 1 (.t 28) (.c (.d (.int .i64 0)))),
       .o 30 (.ld1 (.t 29)),
       .r 31 (.idx 1 (.t 30) (.c (.d (.int .i64 0)))),
       .o 32 (.ld1 (.t 31)),
       .r 33 (.bslice 1 [.t 32]),
       .w 34 (.app 9 1 (.t 26) (.t 33)),
       .r 4 (.mv (.t 34))]))))
  (.reg [.r 35 (.bin .add (.t 10) (.c (.d (.int .i64 1)))),
     .r 10 (.mv (.t 35))]))))
def sc_reply_plain_B1 : SC := .block 0 (.loop sc_reply_plain_L1)
/-- interchange/reply.plain -/
def sc_reply_plain : SC :=
  (.seq (.reg [.r 1 (.boxI (.t 0)),
     .r 2 (.mv (.c (.nils))),
     .r 3 (.mv (.c (.d (.bool false))))])
  (.seq (.reg [.r 4 (.mv (.c (.nils)))])
  (.seq (.seq (.reg [.r 7 (.fld 1 (.t 1)),
     .o 8 (.ld1 (.t 7)),
     .r 9 (.len (.t 8)),
     .r 10 (.mv (.c (.d (.int .i64 0))))])
  sc_reply_plain_B1)
  (.seq (.reg [.r 36 (.mv (.t 4)),
     .r 2 (.mv (.t 36)),
     .r 3 (.mv (.c (.d (.bool true))))])
  .ret))))
theorem fit_reply_plain : fits Tryz.prog 27 Tryz.f27 sc_reply_plain [.t 2, .t 3] 1 = true := by kernel_rfl

/-- interchange/kit.IsDigits -/
def sc_kit_IsDigits : SC :=
  (.seq (.reg [.r 2 (.mv (.c (.d (.bool false))))])
  (.seq (.reg (.r 3 (.mv (.t 0)) :: .r 4 (.bin .neq (.t 3) (.c (.d (.str [])))) :: .r 5 (.mv (.t 4)) :: gapp [6, 7] 5 true (.r 6 (.mv (.t 0)) :: .c 7 (.f 97) [.t 6, .c (.d (.int .u8 48)), .c (.d (.int .u8 57))] :: []) (.r 8 (.pick (.t 5) (.t 7) (.c (.d (.bool false)))) :: .r 2 (.mv (.t 8)) :: [])))
  .ret))
theorem fit_kit_IsDigits : fits Tryz.prog 74 Tryz.f74 sc_kit_IsDigits [.t 2] 1 = true := by kernel_rfl

def sc_interchangeref7_listed_L1 : SC :=
  (.seq (.seq (.reg [.r 6 (.mv (.t 5)),
     .r 7 (.fld 1 (.t 1)),
     .o 8 (.ld1 (.t 7)),
     .r 9 (.len (.t 8)),
     .r 10 (.bin .lss (.t 6) (.t 9))])
  (.cond (.t 10)
    .skip
    (.exit 0)))
  (.seq (.block 1 (.seq (.seq (.reg [.r 13 (.fld 1 (.t 1)),
       .o 14 (.ld1 (.t 13)),
       .r 15 (.mv (.t 5)),
       .r 16 (.idx 1 (.t 14) (.t 15)),
       .r 17 (.fld 0 (.t 16)),
       .o 18 (.ld1 (.t 17)),
       .r 19 (.len (.t 18)),
       .r 20 (.bin .neq (.t 19) (.c (.d (.int .i64 1))))])
    (.cond (.t 20)
      (.seq (.reg [.r 2 (.mv (.c (.nils))),
         .r 3 (.mv (.c (.d (.bool false))))])
      .ret)
      .skip))
    (.reg [.r 21 (.mv (.t 4)),
       .r 22 (.fld 1 (.t 1)),
       .o 23 (.ld1 (.t 22)),
       .r 24 (.mv (.t 5)),
       .r 25 (.idx 1 (.t 23) (.t 24)),
       .r 26 (.fld 0 (.t 25)),
       .o 27 (.ld1 (.t 26)),
       .r 28 (.idx 1 (.t 27) (.c (.d (.int .i64 0)))),
       .o 29 (.ld1 (.t 28)),
       .r 30 (.bslice 1 [.t 29]),
       .w 31 (.app 52 1 (.t 21) (.t 30)),
       .r 4 (.mv (.t 31))])))
  (.reg [.r 11 (.mv (.t 5)),
     .r 12 (.bin .add (.t 11) (.c (.d (.int .i64 1)))),
     .r 5 (.mv (.t 12))])))
def sc_interchangeref7_listed_B1 : SC := .block 0 (.loop sc_interchangeref7_listed_L1)
/-- interchange/interchangeref7.listed -/
def sc_interchangeref7_listed : SC :=
  (.seq (.reg [.r 1 (.boxI (.t 0)),
     .r 2 (.mv (.c (.nils))),
     .r 3 (.mv (.c (.d (.bool false))))])
  (.seq (.reg [.r 4 (.mv (.c (.nils)))])
  (.seq (.seq (.reg [.r 5 (.mv (.c (.d (.int .i64 0))))])
  sc_interchangeref7_listed_B1)
  (.seq (.reg [.r 32 (.mv (.t 4)),
     .r 2 (.mv (.t 32)),
     .r 3 (.mv (.c (.d (.bool true))))])
  .ret))))
theorem fit_interchangeref7_listed : fits Tryz.prog 33 Tryz.f33 sc_interchangeref7_listed [.t 2, .t 3] 1 = true := by kernel_rfl

def sc_interchangeref7_single_L1 : SC :=
  (.seq (.seq (.reg [.r 4 (.mv (.t 3)),
     .r 5 (.mv (.t 0)),
     .r 6 (.len (.t 5)),
     .r 7 (.bin .lss (.t 4) (.t 6))])
  (.cond (.t 7)
    .skip
    (.exit 0)))
  (.seq (.block 1 (.seq (.reg [.r 10 (.mv (.t 0)),
       .r 11 (.mv (.t 3)),
       .r 12 (.idx 1 (.t 10) (.t 11)),
       .o 13 (.ld1 (.t 12)),
       .r 14 (.len (.t 13)),
       .r 15 (.bin .neq (.t 14) (.c (.d (.int .i64 1))))])
    (.cond (.t 15)
      (.seq (.reg [.r 2 (.mv (.c (.d (.bool false))))])
      .ret)
      .skip)))
  (.reg [.r 8 (.mv (.t 3)),
     .r 9 (.bin .add (.t 8) (.c (.d (.int .i64 1)))),
     .r 3 (.mv (.t 9))])))
def sc_interchangeref7_single_B1 : SC := .block 0 (.loop sc_interchangeref7_single_L1)
/-- interchange/interchangeref7.single -/
def sc_interchangeref7_single : SC :=
  (.seq (.reg [.r 2 (.mv (.c (.d (.bool false))))])
  (.seq (.seq (.reg [.r 3 (.mv (.c (.d (.int .i64 0))))])
  sc_interchangeref7_single_B1)
  (.seq (.reg [.r 2 (.mv (.c (.d (.bool true))))])
  .ret)))
theorem fit_interchangeref7_single : fits Tryz.prog 36 Tryz.f36 sc_interchangeref7_single [.t 2] 1 = true := by kernel_rfl

def sc_interchangeref7_number_L1 : SC :=
  (.seq (.seq (.reg [.r 24 (.mv (.t 4)),
     .r 25 (.mv (.t 0)),
     .r 26 (.lenT (.t 25)),
     .r 27 (.bin .lss (.t 24) (.t 26))])
  (.cond (.t 27)
    .skip
    (.exit 0)))
  (.seq (.block 1 (.seq (.reg (.r 30 (.mv (.t 0)) :: .r 31 (.mv (.t 4)) :: .r 32 (.sidx (.t 30) (.t 31)) :: .r 33 (.bin .lss (.t 32) (.c (.d (.int .u8 48)))) :: .r 34 (.mv (.t 33)) :: gapp [35, 36, 37, 38] 34 false (.r 35 (.mv (.t 0)) :: .r 36 (.mv (.t 4)) :: .r 37 (.sidx (.t 35) (.t 36)) :: .r 38 (.bin .gtr (.t 37) (.c (.d (.int .u8 57)))) :: []) (.r 39 (.pick (.t 34) (.c (.d (.bool true))) (.t 38)) :: [])))
    (.cond (.t 39)
      (.seq (.reg [.r 2 (.mv (.c (.d (.int .i64 0)))),
         .r 3 (.mv (.c (.d (.bool false))))])
      .ret)
      .skip)))
  (.reg [.r 28 (.mv (.t 4)),
     .r 29 (.bin .add (.t 28) (.c (.d (.int .i64 1)))),
     .r 4 (.mv (.t 29))])))
def sc_interchangeref7_number_B1 : SC := .block 0 (.loop sc_interchangeref7_number_L1)
/-- interchange/interchangeref7.number -/
def sc_interchangeref7_number : SC :=
  (.seq (.reg [.r 2 (.mv (.c (.d (.int .i64 0)))),
     .r 3 (.mv (.c (.d (.bool false))))])
  (.seq (.seq (.reg (.r 7 (.mv (.t 0)) :: .r 8 (.bin .eql (.t 7) (.c (.d (.str [])))) :: .r 9 (.mv (.t 8)) :: gapp [10, 11, 12] 9 false (.r 10 (.mv (.t 0)) :: .r 11 (.lenT (.t 10)) :: .r 12 (.bin .gtr (.t 11) (.c (.d (.int .i64 4)))) :: []) (.r 13 (.pick (.t 9) (.c (.d (.bool true))) (.t 12)) :: .r 14 (.mv (.t 13)) :: gapp [15, 16, 17, 18, 19, 20, 21, 22] 14 false (.r 15 (.mv (.t 0)) :: .r 16 (.lenT (.t 15)) :: .r 17 (.bin .gtr (.t 16) (.c (.d (.int .i64 1)))) :: .r 18 (.mv (.t 17)) :: gapp [19, 20, 21] 18 true (.r 19 (.mv (.t 0)) :: .r 20 (.sidx (.t 19) (.c (.d (.int .i64 0)))) :: .r 21 (.bin .eql (.t 20) (.c (.d (.int .u8 48)))) :: []) (.r 22 (.pick (.t 18) (.t 21) (.c (.d (.bool false)))) :: [])) (.r 23 (.pick (.t 14) (.c (.d (.bool true))) (.t 22)) :: []))))
  (.cond (.t 23)
    (.seq (.reg [.r 2 (.mv (.c (.d (.int .i64 0)))),
       .r 3 (.mv (.c (.d (.bool false))))])
    .ret)
    .skip))
  (.seq (.seq (.reg [.r 4 (.mv (.c (.d (.int .i64 0))))])
  sc_interchangeref7_number_B1)
  (.seq (.reg [.r 41 (.mv (.t 0)),
     .c 42 (.f 75) [.t 41],
     .r 40 (.mv (.t 42)),
     .r 43 (.ext (.t 40) 0),
     .r 44 (.ext (.t 40) 1),
     .r 5 (.mv (.t 43)),
     .r 6 (.mv (.t 44))])
  (.seq (.reg [.r 45 (.mv (.t 5)),
     .r 2 (.mv (.t 45)),
     .r 3 (.mv (.c (.d (.bool true))))])
  .ret)))))
theorem fit_interchangeref7_number : fits Tryz.prog 63 Tryz.f63 sc_interchangeref7_number [.t 2, .t 3] 1 = true := by kernel_rfl

set_option maxRecDepth 100000 in
set_option maxHeartbeats 40000000 in
noncomputable def sims_GN_0_0 : (∀ (x0 : Tapi_Segment), {m : Option ((List (List UInt8)) × Bool) // ∀ r, m = some r → PureSpec Tryz.prog 27 [.agg (rTapi_Segment x0)] (.tup [.slice (List.map rowS r.1), .bool r.2])}) × (∀ (x0 : List UInt8), {m : Option (Bool) // ∀ r, m = some r → PureSpec Tryz.prog 74 [.str x0] (.bool r)}) × (∀ (x0 : Tapi_Segment), {m : Option ((List (List (List UInt8))) × Bool) // ∀ r, m = some r → PureSpec Tryz.prog 33 [.agg (rTapi_Segment x0)] (.tup [.slice (List.map (rowL rowS) r.1), .bool r.2])}) × (∀ (x0 : List (List (List UInt8))), {m : Option (Bool) // ∀ r, m = some r → PureSpec Tryz.prog 36 [.slice (List.map (rowL rowS) x0)] (.bool r)}) × (∀ (x0 : List UInt8), {m : Option (Int × Bool) // ∀ r, m = some r → PureSpec Tryz.prog 63 [.str x0] (.tup [.int .i64 r.1, .bool r.2])}) := by
  refine ⟨?g0, ?g1, ?g2, ?g3, ?g4⟩
  case' g0 => (intro x0; apply Subtype.mk; intro r hm; apply pure_walk Tryz.func27 fit_reply_plain; unfold sc_reply_plain)
  case' g1 => (intro x0; apply Subtype.mk; intro r hm; apply pure_walk Tryz.func74 fit_kit_IsDigits; unfold sc_kit_IsDigits)
  case' g2 => (intro x0; apply Subtype.mk; intro r hm; apply pure_walk Tryz.func33 fit_interchangeref7_listed; unfold sc_interchangeref7_listed)
  case' g3 => (intro x0; apply Subtype.mk; intro r hm; apply pure_walk Tryz.func36 fit_interchangeref7_single; unfold sc_interchangeref7_single)
  case' g4 => (intro x0; apply Subtype.mk; intro r hm; apply pure_walk Tryz.func63 fit_interchangeref7_number; unfold sc_interchangeref7_number)
  all_goals (repeat' (first | with_reducible refine W_seq ?_ | with_reducible refine W_reg ?_ | with_reducible refine W_block ?_ | with_reducible refine W_skip ?_ | with_reducible refine W_ret ?_ | with_reducible refine W_exit ?_ | with_reducible refine O_nil ?_ | with_reducible refine K_seq ?_ | with_reducible refine K_seqE ?_ | with_reducible refine K_seqR ?_ | with_reducible refine K_block ?_ | with_reducible refine K_blockR ?_ | with_reducible refine O_o2r ?_ | ((with_reducible apply O_idxr hm); (iterate 2 (simp only [push_cast, seval]; rfl)); (intro _; rfl); intro e hm) | ((with_reducible apply O_sidxr hm); (iterate 2 (simp only [push_cast, seval]; rfl)); intro e hm) | ((with_reducible apply O_r); (simp only [push_cast, seval]; rfl); (first | exact trivial)) | ((with_reducible apply O_and hm); (simp only [push_cast, seval]; rfl); rfl; intro v hm; rotate_left; intro v g hm) | ((with_reducible apply O_or hm); (simp only [push_cast, seval]; rfl); rfl; intro v hm; rotate_left; intro v g hm) | ((with_reducible apply O_cF hm); (simp only [push_cast, seval]; rfl); (first | apply spec_kit_InBytes _ _ _ | apply spec_strconv_Atoi _); (any_goals ((repeat' (first | rfl | (with_reducible first | apply f_cons) | (with_reducible apply f_byte; decide))); done)); intro x hm) | ((with_reducible apply O_w); (simp only [push_cast, seval]; rfl); (first | exact trivial)) | ((with_reducible apply O_appV hm); (iterate 4 (simp only [push_cast, seval]; rfl)); (focus ((repeat' (first | rfl | (with_reducible first | apply dv_slice | apply fold_nil | apply fold_cons))); done)); decide; (intro _; rfl); intro hm) | ((with_reducible apply S_condB hm); (simp only [push_cast, seval]; rfl); intro hm; rotate_left; intro hm) | ((with_reducible apply K_end2 hm); (focus (simp only [resOf, resL, RV.get, push_cast, seval]; rfl)); (focus (first | (dsimp only; done))); (focus ((repeat' (first | rfl | (with_reducible first | apply f_tup | apply dv_slice | apply f_cons | apply fold_nil))); done))) | ((with_reducible apply K_endS hm); (focus (simp only [resOf, resL, RV.get, push_cast, seval]; rfl)); (focus ((repeat' (first | rfl)); done))) | ((with_reducible apply K_bool hm); (simp only [push_cast, seval]; rfl)) | ((with_reducible apply K_leave hm); intro r hm) | ((with_reducible apply K_leaveR hm); intro r hm) | ((apply S_loopY (b := 0) (X := sc_reply_plain_B1) (x := sc_reply_plain_L1) rfl (fun (c : SV × SV) (s : (List (List UInt8)) × Int) => st [(4, .vec 4), (8, c.1), (9, c.2), (10, .d (.int .i64 s.2))] [(4, .vec 9 1 (vrow rowS s.1))]) (c := (_, _)) (s0 := (_, _)) hm); (focus (first | (dsimp only; done))); (with_reducible refine Then.mk ?_ ?_); apply Imp.trans; (focus (apply imp_vecnil (slot := 4) (id := 4) (e := 9) (sz := 1); (focus (simp only [push_cast, seval]; done))))) | ((apply S_loopY (b := 0) (X := sc_interchangeref7_listed_B1) (x := sc_interchangeref7_listed_L1) rfl (fun (c : SV) (s : (List (List (List UInt8))) × Int) => st [(1, c), (4, .vec 4), (5, .d (.int .i64 s.2))] [(4, .vec 52 1 (vrow (rowL rowS) s.1))]) (c := _) (s0 := (_, _)) hm); (focus (first | (dsimp only; done))); (with_reducible refine Then.mk ?_ ?_); apply Imp.trans; (focus (apply imp_vecnil (slot := 4) (id := 4) (e := 52) (sz := 1); (focus (simp only [push_cast, seval]; done))))) | ((apply S_loopY (b := 0) (X := sc_interchangeref7_single_B1) (x := sc_interchangeref7_single_L1) rfl (fun (c : SV) (s : Int) => st [(0, c), (3, .d (.int .i64 s))] []) (c := _) (s0 := _) hm); (focus (first | (dsimp only; done))); (with_reducible refine Then.mk ?_ ?_)) | ((apply S_loopY (b := 0) (X := sc_interchangeref7_number_B1) (x := sc_interchangeref7_number_L1) rfl (fun (c : SV) (s : Int) => st [(0, c), (4, .d (.int .i64 s))] []) (c := _) (s0 := _) hm); (focus (first | (dsimp only; done))); (with_reducible refine Then.mk ?_ ?_)) | ((apply K_next (s' := (_, _)) hm); (focus (first | (dsimp only; done)))) | ((apply K_brk (s' := (_, _)) hm); (focus (first | (dsimp only; done)))) | ((apply K_next (s' := _) hm); (focus (first | (dsimp only; done)))) | ((apply K_brk (s' := _) hm); (focus (first | (dsimp only; done)))) | (((with_reducible apply K_brkR hm); intro r hm)) | (((with_reducible apply LoopB.of); (focus (first | (dsimp only; done))); (focus ((intro _; repeat' (first | with_reducible exact impC_end | with_reducible refine impC_seq ?_)))); (intro s o hm; first | unfold sc_reply_plain_L1 | unfold sc_interchangeref7_listed_L1 | unfold sc_interchangeref7_single_L1 | unfold sc_interchangeref7_number_L1); rotate_left; intro s hm)) | (((apply imp_stT; (repeat' (first | with_reducible exact keepT_nil | with_reducible exact keepC_nil | with_reducible apply keepT_cons | with_reducible apply keepC_cons | ((with_reducible apply svle_eq); (focus (first | (simp only [push_cast, seval]; rfl))); (focus ((repeat' (first | rfl)); done))) | ((with_reducible apply chle_eq); (focus (first | (simp only [push_cast, seval]; rfl))); (first | with_reducible exact chle_rfl rfl | with_reducible apply chle_vec)) | (with_reducible first | apply r_nil))); done)))))
noncomputable def m_reply_plain (x0 : Tapi_Segment) : Option ((List (List UInt8)) × Bool) := (sims_GN_0_0.1 x0).1
theorem spec_reply_plain (x0 : Tapi_Segment) : ∀ r, m_reply_plain x0 = some r → PureSpec Tryz.prog 27 [.agg (rTapi_Segment x0)] (.tup [.slice (List.map rowS r.1), .bool r.2]) := (sims_GN_0_0.1 x0).2
noncomputable def m_kit_IsDigits (x0 : List UInt8) : Option (Bool) := (sims_GN_0_0.2.1 x0).1
theorem spec_kit_IsDigits (x0 : List UInt8) : ∀ r, m_kit_IsDigits x0 = some r → PureSpec Tryz.prog 74 [.str x0] (.bool r) := (sims_GN_0_0.2.1 x0).2
noncomputable def m_interchangeref7_single (x0 : List (List (List UInt8))) : Option (Bool) := (sims_GN_0_0.2.2.2.1 x0).1
theorem spec_interchangeref7_single (x0 : List (List (List UInt8))) : ∀ r, m_interchangeref7_single x0 = some r → PureSpec Tryz.prog 36 [.slice (List.map (rowL rowS) x0)] (.bool r) := (sims_GN_0_0.2.2.2.1 x0).2
noncomputable def m_interchangeref7_number (x0 : List UInt8) : Option (Int × Bool) := (sims_GN_0_0.2.2.2.2 x0).1
theorem spec_interchangeref7_number (x0 : List UInt8) : ∀ r, m_interchangeref7_number x0 = some r → PureSpec Tryz.prog 63 [.str x0] (.tup [.int .i64 r.1, .bool r.2]) := (sims_GN_0_0.2.2.2.2 x0).2

/-- interchange/kit.Number -/
def sc_kit_Number : SC :=
  (.seq (.reg [.r 4 (.mv (.c (.d (.int .i64 0)))),
     .r 5 (.mv (.c (.d (.bool false))))])
  (.seq (.seq (.reg (.r 8 (.mv (.t 0)) :: .r 9 (.lenT (.t 8)) :: .r 10 (.mv (.t 1)) :: .r 11 (.bin .gtr (.t 9) (.t 10)) :: .r 12 (.mv (.t 11)) :: gapp [13, 14, 15] 12 false (.r 13 (.mv (.t 0)) :: .c 14 (.f 74) [.t 13] :: .r 15 (.not (.t 14)) :: []) (.r 16 (.pick (.t 12) (.c (.d (.bool true))) (.t 15)) :: .r 17 (.mv (.t 16)) :: gapp [18, 19, 20, 21, 22, 23, 24, 25] 17 false (.r 18 (.mv (.t 0)) :: .r 19 (.lenT (.t 18)) :: .r 20 (.bin .gtr (.t 19) (.c (.d (.int .i64 1)))) :: .r 21 (.mv (.t 20)) :: gapp [22, 23, 24] 21 true (.r 22 (.mv (.t 0)) :: .r 23 (.sidx (.t 22) (.c (.d (.int .i64 0)))) :: .r 24 (.bin .eql (.t 23) (.c (.d (.int .u8 48)))) :: []) (.r 25 (.pick (.t 21) (.t 24) (.c (.d (.bool false)))) :: [])) (.r 26 (.pick (.t 17) (.c (.d (.bool true))) (.t 25)) :: []))))
  (.cond (.t 26)
    (.seq (.reg [.r 4 (.mv (.c (.d (.int .i64 0)))),
       .r 5 (.mv (.c (.d (.bool false))))])
    .ret)
    .skip))
  (.seq (.reg [.r 28 (.mv (.t 0)),
     .c 29 (.f 75) [.t 28],
     .r 27 (.mv (.t 29)),
     .r 30 (.ext (.t 27) 0),
     .r 31 (.ext (.t 27) 1),
     .r 6 (.mv (.t 30)),
     .r 7 (.mv (.t 31))])
  (.seq (.regD [.r 32 (.mv (.t 6)),
     .r 33 (.mv (.t 7)),
     .r 34 (.binI .eql (.t 33) (.c (.d (.raw .nilIface)))),
     .r 4 (.mv (.t 32)),
     .r 5 (.mv (.t 34))])
  .ret))))
theorem fit_kit_Number : fits Tryz.prog 52 Tryz.f52 sc_kit_Number [.t 4, .t 5] 2 = true := by kernel_rfl

/-- interchange/interchangeref7.judgedOf -/
def sc_interchangeref7_judgedOf : SC :=
  (.seq (.reg [.r 4 (.mv (.c (.d (.str [])))),
     .r 5 (.mv (.c (.d (.int .i64 0)))),
     .r 6 (.mv (.c (.d (.bool false))))])
  (.seq (.seq (.reg (.r 9 (.mv (.t 0)) :: .r 10 (.len (.t 9)) :: .r 11 (.bin .lss (.t 10) (.c (.d (.int .i64 2)))) :: .r 12 (.mv (.t 11)) :: gapp [13, 14, 15, 16] 12 false (.r 13 (.mv (.t 0)) :: .r 14 (.len (.t 13)) :: .r 15 (.mv (.t 1)) :: .r 16 (.bin .gtr (.t 14) (.t 15)) :: []) (.r 17 (.pick (.t 12) (.c (.d (.bool true))) (.t 16)) :: .r 18 (.mv (.t 17)) :: gapp [19, 20, 21] 18 false (.r 19 (.mv (.t 0)) :: .c 20 (.f 36) [.t 19] :: .r 21 (.not (.t 20)) :: []) (.r 22 (.pick (.t 18) (.c (.d (.bool true))) (.t 21)) :: []))))
  (.cond (.t 22)
    (.seq (.reg [.r 4 (.mv (.c (.d (.str [])))),
       .r 5 (.mv (.c (.d (.int .i64 0)))),
       .r 6 (.mv (.c (.d (.bool false))))])
    .ret)
    .skip))
  (.seq (.reg [.r 24 (.mv (.t 0)),
     .r 25 (.idx 1 (.t 24) (.c (.d (.int .i64 1)))),
     .o 26 (.ld1 (.t 25)),
     .r 27 (.idx 1 (.t 26) (.c (.d (.int .i64 0)))),
     .o 28 (.ld1 (.t 27)),
     .c 29 (.f 63) [.t 28],
     .r 23 (.mv (.t 29)),
     .r 30 (.ext (.t 23) 0),
     .r 31 (.ext (.t 23) 1),
     .r 7 (.mv (.t 30)),
     .r 8 (.mv (.t 31))])
  (.seq (.reg [.r 32 (.mv (.t 0)),
     .r 33 (.idx 1 (.t 32) (.c (.d (.int .i64 0)))),
     .o 34 (.ld1 (.t 33)),
     .r 35 (.idx 1 (.t 34) (.c (.d (.int .i64 0)))),
     .o 36 (.ld1 (.t 35)),
     .r 37 (.mv (.t 7)),
     .r 38 (.mv (.t 8)),
     .r 4 (.mv (.t 36)),
     .r 5 (.mv (.t 37)),
     .r 6 (.mv (.t 38))])
  .ret))))
theorem fit_interchangeref7_judgedOf : fits Tryz.prog 34 Tryz.f34 sc_interchangeref7_judgedOf [.t 4, .t 5, .t 6] 2 = true := by kernel_rfl

/-- interchange/interchangeref7.flawOf -/
def sc_interchangeref7_flawOf : SC :=
  (.seq (.reg [.w 2 (.boxM (.c (.agg [.d (.int .i64 0), .d (.int .i64 0), .d (.int .i64 0), .d (.int .i64 0), .d (.int .i64 0), .d (.str [])]))),
     .r 3 (.mv (.c (.d (.bool false))))])
  (.seq (.reg [.r 15 (.build [.d (.int .i64 0), .d (.int .i64 0), .d (.int .i64 0), .d (.int .i64 0), .d (.int .i64 0), .d (.str [])] []),
     .w 4 (.boxM (.c (.agg [.d (.int .i64 0), .d (.int .i64 0), .d (.int .i64 0), .d (.int .i64 0), .d (.int .i64 0), .d (.str [])]))),
     .w 0 (.st 6 (.t 4) (.t 15))])
  (.seq (.seq (.reg (.r 16 (.mv (.t 0)) :: .r 17 (.len (.t 16)) :: .r 18 (.bin .lss (.t 17) (.c (.d (.int .i64 2)))) :: .r 19 (.mv (.t 18)) :: gapp [20, 21, 22] 19 false (.r 20 (.mv (.t 0)) :: .r 21 (.len (.t 20)) :: .r 22 (.bin .gtr (.t 21) (.c (.d (.int .i64 4)))) :: []) (.r 23 (.pick (.t 19) (.c (.d (.bool true))) (.t 22)) :: .r 24 (.mv (.t 23)) :: gapp [25, 26, 27, 28, 29] 24 false (.r 25 (.mv (.t 0)) :: .r 26 (.idx 1 (.t 25) (.c (.d (.int .i64 0)))) :: .r 27 (.ld1 (.t 26)) :: .r 28 (.len (.t 27)) :: .r 29 (.bin .neq (.t 28) (.c (.d (.int .i64 1)))) :: []) (.r 30 (.pick (.t 24) (.c (.d (.bool true))) (.t 29)) :: .r 31 (.mv (.t 30)) :: gapp [32, 33, 34, 35, 36] 31 false (.r 32 (.mv (.t 0)) :: .r 33 (.idx 1 (.t 32) (.c (.d (.int .i64 1)))) :: .r 34 (.ld1 (.t 33)) :: .r 35 (.len (.t 34)) :: .r 36 (.bin .neq (.t 35) (.c (.d (.int .i64 1)))) :: []) (.r 37 (.pick (.t 31) (.c (.d (.bool true))) (.t 36)) :: [])))))
  (.cond (.t 37)
    (.seq (.reg [.o 38 (.ldA 6 (.t 4)),
       .w 0 (.st 6 (.t 2) (.t 38)),
       .r 3 (.mv (.c (.d (.bool false))))])
    .ret)
    .skip))
  (.seq (.reg [.r 40 (.mv (.t 0)),
     .r 41 (.idx 1 (.t 40) (.c (.d (.int .i64 0)))),
     .o 42 (.ld1 (.t 41)),
     .r 43 (.idx 1 (.t 42) (.c (.d (.int .i64 0)))),
     .o 44 (.ld1 (.t 43)),
     .c 45 (.f 63) [.t 44],
     .r 39 (.mv (.t 45)),
     .r 46 (.ext (.t 39) 0),
     .r 47 (.ext (.t 39) 1),
     .r 5 (.mv (.t 46)),
     .r 6 (.mv (.t 47))])
  (.seq (.reg [.r 49 (.mv (.t 0)),
     .r 50 (.idx 1 (.t 49) (.c (.d (.int .i64 1)))),
     .o 51 (.ld1 (.t 50)),
     .r 52 (.idx 1 (.t 51) (.c (.d (.int .i64 0)))),
     .o 53 (.ld1 (.t 52)),
     .c 54 (.f 63) [.t 53],
     .r 48 (.mv (.t 54)),
     .r 55 (.ext (.t 48) 0),
     .r 56 (.ext (.t 48) 1),
     .r 7 (.mv (.t 55)),
     .r 8 (.mv (.t 56))])
  (.seq (.reg [.r 57 (.mv (.t 5)),
     .r 58 (.mv (.t 7)),
     .r 59 (.fld 0 (.t 4)),
     .w 0 (.st 1 (.t 59) (.t 57)),
     .r 60 (.fld 1 (.t 4)),
     .w 0 (.st 1 (.t 60) (.t 58))])
  (.seq (.seq (.reg (.r 61 (.mv (.t 6)) :: .r 62 (.not (.t 61)) :: .r 63 (.mv (.t 62)) :: gapp [64, 65] 63 false (.r 64 (.mv (.t 8)) :: .r 65 (.not (.t 64)) :: []) (.r 66 (.pick (.t 63) (.c (.d (.bool true))) (.t 65)) :: [])))
  (.cond (.t 66)
    (.seq (.reg [.o 67 (.ldA 6 (.t 4)),
       .w 0 (.st 6 (.t 2) (.t 67)),
       .r 3 (.mv (.c (.d (.bool false))))])
    .ret)
    .skip))
  (.seq (.seq (.reg (.r 68 (.mv (.t 0)) :: .r 69 (.len (.t 68)) :: .r 70 (.bin .gtr (.t 69) (.c (.d (.int .i64 2)))) :: .r 71 (.mv (.t 70)) :: gapp [72, 73, 74, 75, 76] 71 true (.r 72 (.mv (.t 0)) :: .r 73 (.idx 1 (.t 72) (.c (.d (.int .i64 2)))) :: .r 74 (.ld1 (.t 73)) :: .r 75 (.len (.t 74)) :: .r 76 (.bin .eql (.t 75) (.c (.d (.int .i64 3)))) :: []) (.r 77 (.pick (.t 71) (.t 76) (.c (.d (.bool false)))) :: [])))
  (.cond (.t 77)
    (.seq (.reg [.r 79 (.mv (.t 0)),
       .r 80 (.idx 1 (.t 79) (.c (.d (.int .i64 2)))),
       .o 81 (.ld1 (.t 80)),
       .r 82 (.idx 1 (.t 81) (.c (.d (.int .i64 0)))),
       .o 83 (.ld1 (.t 82)),
       .c 84 (.f 63) [.t 83],
       .r 78 (.mv (.t 84)),
       .r 85 (.ext (.t 78) 0),
       .r 86 (.ext (.t 78) 1),
       .r 9 (.mv (.t 85)),
       .r 10 (.mv (.t 86))])
    (.seq (.reg [.r 88 (.mv (.t 0)),
       .r 89 (.idx 1 (.t 88) (.c (.d (.int .i64 2)))),
       .o 90 (.ld1 (.t 89)),
       .r 91 (.idx 1 (.t 90) (.c (.d (.int .i64 1)))),
       .o 92 (.ld1 (.t 91)),
       .c 93 (.f 63) [.t 92],
       .r 87 (.mv (.t 93)),
       .r 94 (.ext (.t 87) 0),
       .r 95 (.ext (.t 87) 1),
       .r 11 (.mv (.t 94)),
       .r 12 (.mv (.t 95))])
    (.seq (.reg [.r 97 (.mv (.t 0)),
       .r 98 (.idx 1 (.t 97) (.c (.d (.int .i64 2)))),
       .o 99 (.ld1 (.t 98)),
       .r 100 (.idx 1 (.t 99) (.c (.d (.int .i64 2)))),
       .o 101 (.ld1 (.t 100)),
       .c 102 (.f 63) [.t 101],
       .r 96 (.mv (.t 102)),
       .r 103 (.ext (.t 96) 0),
       .r 104 (.ext (.t 96) 1),
       .r 13 (.mv (.t 103)),
       .r 14 (.mv (.t 104))])
    (.seq (.reg [.r 105 (.mv (.t 9)),
       .r 106 (.mv (.t 11)),
       .r 107 (.mv (.t 13)),
       .r 108 (.build [.d (.int .i64 0), .d (.int .i64 0), .d (.int .i64 0)] [(0, 1, .t 105), (1, 1, .t 106), (2, 1, .t 107)]),
       .r 109 (.fld 2 (.t 4)),
       .w 0 (.st 3 (.t 109) (.t 108))])
    (.seq (.reg (.r 110 (.mv (.t 10)) :: .r 111 (.not (.t 110)) :: .r 112 (.mv (.t 111)) :: gapp [113, 114] 112 false (.r 113 (.mv (.t 12)) :: .r 114 (.not (.t 113)) :: []) (.r 115 (.pick (.t 112) (.c (.d (.bool true))) (.t 114)) :: .r 116 (.mv (.t 115)) :: gapp [117, 118] 116 false (.r 117 (.mv (.t 14)) :: .r 118 (.not (.t 117)) :: []) (.r 119 (.pick (.t 116) (.c (.d (.bool true))) (.t 118)) :: .r 120 (.mv (.t 119)) :: gapp [121, 122, 123, 124] 120 false (.r 121 (.fld 2 (.t 4)) :: .r 122 (.ldA 3 (.t 121)) :: .r 123 (.build [.d (.int .i64 0), .d (.int .i64 0), .d (.int .i64 0)] []) :: .r 124 (.eqs .eql [(.int .i64), (.int .i64), (.int .i64)] (.t 122) (.t 123)) :: []) (.r 125 (.pick (.t 120) (.c (.d (.bool true))) (.t 124)) :: [])))))
    (.cond (.t 125)
      (.seq (.reg [.o 126 (.ldA 6 (.t 4)),
         .w 0 (.st 6 (.t 2) (.t 126)),
         .r 3 (.mv (.c (.d (.bool false))))])
      .ret)
      .skip))))))
    (.seq (.reg (.r 127 (.mv (.t 0)) :: .r 128 (.len (.t 127)) :: .r 129 (.bin .gtr (.t 128) (.c (.d (.int .i64 2)))) :: .r 130 (.mv (.t 129)) :: gapp [131, 132, 133, 134, 135, 136, 137, 138, 139, 140, 141, 142, 143, 144, 145, 146, 147, 148] 130 true (.r 131 (.mv (.t 0)) :: .r 132 (.len (.t 131)) :: .r 133 (.bin .eql (.t 132) (.c (.d (.int .i64 3)))) :: .r 134 (.mv (.t 133)) :: gapp [135, 136, 137, 138, 139] 134 false (.r 135 (.mv (.t 0)) :: .r 136 (.idx 1 (.t 135) (.c (.d (.int .i64 2)))) :: .r 137 (.ld1 (.t 136)) :: .r 138 (.len (.t 137)) :: .r 139 (.bin .neq (.t 138) (.c (.d (.int .i64 1)))) :: []) (.r 140 (.pick (.t 134) (.c (.d (.bool true))) (.t 139)) :: .r 141 (.mv (.t 140)) :: gapp [142, 143, 144, 145, 146, 147] 141 false (.r 142 (.mv (.t 0)) :: .r 143 (.idx 1 (.t 142) (.c (.d (.int .i64 2)))) :: .r 144 (.ld1 (.t 143)) :: .r 145 (.idx 1 (.t 144) (.c (.d (.int .i64 0)))) :: .r 146 (.ld1 (.t 145)) :: .r 147 (.bin .neq (.t 146) (.c (.d (.str [])))) :: []) (.r 148 (.pick (.t 141) (.c (.d (.bool true))) (.t 147)) :: []))) (.r 149 (.pick (.t 130) (.t 148) (.c (.d (.bool false)))) :: [])))
    (.cond (.t 149)
      (.seq (.reg [.o 150 (.ldA 6 (.t 4)),
         .w 0 (.st 6 (.t 2) (.t 150)),
         .r 3 (.mv (.c (.d (.bool false))))])
      .ret)
      .skip))))
  (.seq (.seq (.reg [.r 151 (.mv (.t 0)),
     .r 152 (.len (.t 151)),
     .r 153 (.bin .eql (.t 152) (.c (.d (.int .i64 4))))])
  (.cond (.t 153)
    (.seq (.reg [.r 154 (.mv (.t 0)),
       .r 155 (.idx 1 (.t 154) (.c (.d (.int .i64 3)))),
       .o 156 (.ld1 (.t 155)),
       .r 157 (.idx 1 (.t 156) (.c (.d (.int .i64 0)))),
       .o 158 (.ld1 (.t 157)),
       .r 159 (.fld 5 (.t 4)),
       .w 0 (.st 1 (.t 159) (.t 158))])
    (.seq (.regE [.r 160 (.ldA 6 (.t 4)),
       .r 161 (.mv (.t 0)),
       .r 162 (.idx 1 (.t 161) (.c (.d (.int .i64 3)))),
       .r 163 (.ld1 (.t 162)),
       .r 164 (.len (.t 163)),
       .r 165 (.bin .eql (.t 164) (.c (.d (.int .i64 1)))),
       .r 166 (.mv (.t 165)),
       .g 166 true (some 167) (.r 167 (.fld 5 (.t 4))),
       .g 166 true (some 168) (.r 168 (.ld1 (.t 167))),
       .g 166 true (some 169) (.r 169 (.bin .neq (.t 168) (.c (.d (.str []))))),
       .r 170 (.pick (.t 166) (.t 169) (.c (.d (.bool false)))),
       .x 0 (.st 6 (.t 2) (.t 160)) [(7, 167, .gd 166 true (.fld 5 (.t 4))), (8, 168, .gd 166 true (.ld1 (.t 167))), (9, 169, .gd 166 true (.bin .neq (.t 168) (.c (.d (.str []))))), (10, 170, .pick (.t 166) (.t 169) (.c (.d (.bool false))))],
       .r 3 (.mv (.t 170))])
    .ret))
    .skip))
  (.seq (.reg [.o 171 (.ldA 6 (.t 4)),
     .w 0 (.st 6 (.t 2) (.t 171)),
     .r 3 (.mv (.c (.d (.bool true))))])
  .ret))))))))))
theorem fit_interchangeref7_flawOf : fits Tryz.prog 35 Tryz.f35 sc_interchangeref7_flawOf [.cell 2 6, .t 3] 1 = true := by kernel_rfl

set_option maxRecDepth 100000 in
set_option maxHeartbeats 40000000 in
noncomputable def sims_GN_1_0 : (∀ (x0 : List UInt8) (x1 : Int), {m : Option (Int × Bool) // ∀ r, m = some r → PureSpec Tryz.prog 52 [.str x0, .int .i64 x1] (.tup [.int .i64 r.1, .bool r.2])}) × (∀ (x0 : List (List (List UInt8))) (x1 : Int), {m : Option ((List UInt8) × Int × Bool) // ∀ r, m = some r → PureSpec Tryz.prog 34 [.slice (List.map (rowL rowS) x0), .int .i64 x1] (.tup [.str r.1, .int .i64 r.2.1, .bool r.2.2])}) × (∀ (x0 : List (List (List UInt8))), {m : Option (Tapi_Flaw × Bool) // ∀ r, m = some r → PureSpec Tryz.prog 35 [.slice (List.map (rowL rowS) x0)] (.tup [.agg (rTapi_Flaw r.1), .bool r.2])}) := by
  refine ⟨?g0, ?g1, ?g2⟩
  case' g0 => (intro x0 x1; apply Subtype.mk; intro r hm; apply pure_walk Tryz.func52 fit_kit_Number; unfold sc_kit_Number)
  case' g1 => (intro x0 x1; apply Subtype.mk; intro r hm; apply pure_walk Tryz.func34 fit_interchangeref7_judgedOf; unfold sc_interchangeref7_judgedOf)
  case' g2 => (intro x0; apply Subtype.mk; intro r hm; apply pure_walk Tryz.func35 fit_interchangeref7_flawOf; unfold sc_interchangeref7_flawOf)
  all_goals (repeat' (first | with_reducible refine W_seq ?_ | with_reducible refine W_reg ?_ | with_reducible refine W_regD ?_ | with_reducible refine W_regE ?_ | with_reducible refine W_skip ?_ | with_reducible refine W_ret ?_ | with_reducible refine O_nil ?_ | with_reducible refine K_seq ?_ | with_reducible refine K_seqR ?_ | with_reducible refine O_o2r ?_ | ((with_reducible apply O_idxr hm); (iterate 2 (simp only [push_cast, seval]; rfl)); (intro _; rfl); intro e hm) | ((with_reducible apply O_sidxr hm); (iterate 2 (simp only [push_cast, seval]; rfl)); intro e hm) | ((with_reducible apply O_r); (simp only [push_cast, seval]; rfl); (first | exact trivial)) | ((with_reducible apply O_and hm); (simp only [push_cast, seval]; rfl); rfl; intro v hm; rotate_left; intro v g hm) | ((with_reducible apply O_or hm); (simp only [push_cast, seval]; rfl); rfl; intro v hm; rotate_left; intro v g hm) | ((with_reducible apply O_gY); (focus (simp only [push_cast, seval]; done))) | ((with_reducible apply O_gF); (focus (simp only [push_cast, seval]; done))) | ((with_reducible apply O_gS hm); (simp only [push_cast, seval]; rfl); intro hm; rotate_left; intro hm) | ((with_reducible apply O_cF hm); (simp only [push_cast, seval]; rfl); (first | apply spec_kit_IsDigits _ | apply spec_strconv_Atoi _ | apply spec_interchangeref7_single _ | apply spec_interchangeref7_number _); (any_goals ((repeat' (first | rfl)); done)); intro x hm) | ((with_reducible apply O_w); (simp only [push_cast, seval]; rfl); (first | exact trivial)) | ((with_reducible apply O_x); (simp only [push_cast, seval]; rfl); (first | exact trivial); (focus ((repeat' (first | exact Rer_nil | ((with_reducible apply Rer_gdY); (focus (simp only [push_cast, seval]; done)); (focus (simp only [push_cast, seval]; rfl)); (focus (first | exact trivial)); (focus (simp only [push_cast, seval]))) | ((with_reducible apply Rer_gdN); (focus (simp only [push_cast, seval]; rfl)); (focus rfl); (focus (simp only [push_cast, seval]; done))) | ((with_reducible apply Rer_cons); (focus (simp only [push_cast, seval]; rfl)); (focus (first | exact trivial)); (focus (simp only [push_cast, seval]))))); done))) | ((with_reducible apply S_condB hm); (simp only [push_cast, seval]; rfl); intro hm; rotate_left; intro hm) | ((with_reducible apply K_end3 hm); (focus (simp only [resOf, resL, RV.get, push_cast, seval]; rfl)); (focus (first | (dsimp only; done))); (focus ((repeat' (first | rfl)); done))) | ((with_reducible apply K_end2 hm); (focus (simp only [resOf, resL, RV.get, push_cast, seval]; rfl)); (focus (first | (dsimp only; done))); (focus ((repeat' (first | rfl | (with_reducible first | apply fT_Tapi_Flaw | apply fT_Tapi_Spot | apply f_tup | apply f_agg | apply f_cons))); done))) | ((with_reducible apply K_bool hm); (simp only [push_cast, seval]; rfl))))
noncomputable def m_kit_Number (x0 : List UInt8) (x1 : Int) : Option (Int × Bool) := (sims_GN_1_0.1 x0 x1).1
theorem spec_kit_Number (x0 : List UInt8) (x1 : Int) : ∀ r, m_kit_Number x0 x1 = some r → PureSpec Tryz.prog 52 [.str x0, .int .i64 x1] (.tup [.int .i64 r.1, .bool r.2]) := (sims_GN_1_0.1 x0 x1).2
/-- interchange/reply.head -/
def sc_reply_head : SC :=
  (.seq (.reg [.r 2 (.boxI (.t 0)),
     .r 4 (.mv (.c (.d (.str [])))),
     .r 5 (.mv (.c (.d (.int .i64 0)))),
     .r 6 (.mv (.c (.d (.bool false)))),
     .r 7 (.mv (.c (.d (.bool false))))])
  (.seq (.reg [.o 11 (.ldA 2 (.t 2)),
     .c 12 (.f 27) [.t 11],
     .r 10 (.mv (.t 12)),
     .r 13 (.ext (.t 10) 0),
     .r 14 (.ext (.t 10) 1),
     .r 8 (.mv (.t 13)),
     .r 7 (.mv (.t 14))])
  (.seq (.seq (.reg (.r 15 (.mv (.t 7)) :: .r 16 (.not (.t 15)) :: .r 17 (.mv (.t 16)) :: gapp [18, 19, 20] 17 false (.r 18 (.mv (.t 8)) :: .r 19 (.len (.t 18)) :: .r 20 (.bin .lss (.t 19) (.c (.d (.int .i64 2)))) :: []) (.r 21 (.pick (.t 17) (.c (.d (.bool true))) (.t 20)) :: .r 22 (.mv (.t 21)) :: gapp [23, 24, 25] 22 false (.r 23 (.mv (.t 8)) :: .r 24 (.len (.t 23)) :: .r 25 (.bin .gtr (.t 24) (.c (.d (.int .i64 3)))) :: []) (.r 26 (.pick (.t 22) (.c (.d (.bool true))) (.t 25)) :: .r 27 (.mv (.t 26)) :: gapp [28, 29, 30, 31, 32, 33, 34, 35, 36, 37, 38, 39, 40] 27 false (.r 28 (.mv (.t 8)) :: .r 29 (.len (.t 28)) :: .r 30 (.bin .eql (.t 29) (.c (.d (.int .i64 3)))) :: .r 31 (.mv (.t 30)) :: gapp [32, 33, 34, 35, 36, 37, 38, 39] 31 true (.r 32 (.mv (.t 1)) :: .r 33 (.not (.t 32)) :: .r 34 (.mv (.t 33)) :: gapp [35, 36, 37, 38] 34 false (.r 35 (.mv (.t 8)) :: .r 36 (.idx 1 (.t 35) (.c (.d (.int .i64 2)))) :: .r 37 (.ld1 (.t 36)) :: .r 38 (.bin .neq (.t 37) (.c (.d (.str [49])))) :: []) (.r 39 (.pick (.t 34) (.c (.d (.bool true))) (.t 38)) :: [])) (.r 40 (.pick (.t 31) (.t 39) (.c (.d (.bool false)))) :: [])) (.r 41 (.pick (.t 27) (.c (.d (.bool true))) (.t 40)) :: [])))))
  (.cond (.t 41)
    (.seq (.reg [.r 4 (.mv (.c (.d (.str [])))),
       .r 5 (.mv (.c (.d (.int .i64 0)))),
       .r 6 (.mv (.c (.d (.bool false)))),
       .r 7 (.mv (.c (.d (.bool false))))])
    .ret)
    .skip))
  (.seq (.reg [.r 43 (.mv (.t 8)),
     .r 44 (.idx 1 (.t 43) (.c (.d (.int .i64 1)))),
     .o 45 (.ld1 (.t 44)),
     .c 46 (.f 52) [.t 45, .c (.d (.int .i64 4))],
     .r 42 (.mv (.t 46)),
     .r 47 (.ext (.t 42) 0),
     .r 48 (.ext (.t 42) 1),
     .r 9 (.mv (.t 47)),
     .r 7 (.mv (.t 48))])
  (.seq (.reg [.r 49 (.mv (.t 8)),
     .r 50 (.idx 1 (.t 49) (.c (.d (.int .i64 0)))),
     .o 51 (.ld1 (.t 50)),
     .r 52 (.mv (.t 9)),
     .r 53 (.mv (.t 8)),
     .r 54 (.len (.t 53)),
     .r 55 (.bin .eql (.t 54) (.c (.d (.int .i64 3)))),
     .r 56 (.mv (.t 7)),
     .r 4 (.mv (.t 51)),
     .r 5 (.mv (.t 52)),
     .r 6 (.mv (.t 55)),
     .r 7 (.mv (.t 56))])
  .ret)))))
theorem fit_reply_head : fits Tryz.prog 23 Tryz.f23 sc_reply_head [.t 4, .t 5, .t 6, .t 7] 2 = true := by kernel_rfl

def sc_reply_spotOf_L1 : SC :=
  (.seq (.reg [.r 28 (.bin .lss (.t 27) (.t 26))])
  (.seq (.cond (.t 28)
    .skip
    (.exit 0))
  (.seq (.block 1 (.seq (.reg [.r 29 (.mv (.t 27)),
       .r 30 (.idx 1 (.t 25) (.t 27)),
       .o 31 (.ld1 (.t 30)),
       .r 5 (.mv (.t 29)),
       .r 6 (.mv (.t 31))])
    (.seq (.reg [.r 7 (.mv (.c (.d (.bool false))))])
    (.seq (.reg [.r 33 (.mv (.t 5)),
       .r 34 (.mv (.t 6)),
       .c 35 (.f 52) [.t 34, .c (.d (.int .i64 4))],
       .r 32 (.mv (.t 35)),
       .r 36 (.ext (.t 32) 0),
       .r 37 (.ext (.t 32) 1),
       .r 38 (.aidx 1 3 (.t 4) (.t 33)),
       .w 0 (.st 1 (.t 38) (.t 36)),
       .r 7 (.mv (.t 37))])
    (.seq (.reg [.r 39 (.mv (.t 7)),
       .r 40 (.not (.t 39))])
    (.cond (.t 40)
      (.seq (.reg [.r 41 (.build [.d (.int .i64 0), .d (.int .i64 0), .d (.int .i64 0)] []),
         .w 0 (.st 3 (.t 2) (.t 41)),
         .r 3 (.mv (.c (.d (.bool false))))])
      .ret)
      .skip))))))
  (.reg [.r 42 (.bin .add (.t 27) (.c (.d (.int .i64 1)))),
     .r 27 (.mv (.t 42))]))))
def sc_reply_spotOf_B1 : SC := .block 0 (.loop sc_reply_spotOf_L1)
/-- interchange/reply.spotOf -/
def sc_reply_spotOf : SC :=
  (.seq (.reg [.r 1 (.boxI (.t 0)),
     .w 2 (.boxM (.c (.agg [.d (.int .i64 0), .d (.int .i64 0), .d (.int .i64 0)]))),
     .r 3 (.mv (.c (.d (.bool false))))])
  (.seq (.seq (.reg (.r 9 (.fld 0 (.t 1)) :: .o 10 (.ld1 (.t 9)) :: .r 11 (.len (.t 10)) :: .r 12 (.bin .neq (.t 11) (.c (.d (.int .i64 1)))) :: .r 13 (.mv (.t 12)) :: gapp [14, 15, 16, 17, 18, 19] 13 false (.r 14 (.fld 0 (.t 1)) :: .r 15 (.ld1 (.t 14)) :: .r 16 (.idx 1 (.t 15) (.c (.d (.int .i64 0)))) :: .r 17 (.ld1 (.t 16)) :: .r 18 (.len (.t 17)) :: .r 19 (.bin .neq (.t 18) (.c (.d (.int .i64 3)))) :: []) (.r 20 (.pick (.t 13) (.c (.d (.bool true))) (.t 19)) :: [])))
  (.cond (.t 20)
    (.seq (.reg [.r 21 (.build [.d (.int .i64 0), .d (.int .i64 0), .d (.int .i64 0)] []),
       .w 0 (.st 3 (.t 2) (.t 21)),
       .r 3 (.mv (.c (.d (.bool false))))])
    .ret)
    .skip))
  (.seq (.reg [.w 4 (.boxM (.c (.agg [.d (.int .i64 0), .d (.int .i64 0), .d (.int .i64 0)])))])
  (.seq (.seq (.reg [.r 22 (.fld 0 (.t 1)),
     .o 23 (.ld1 (.t 22)),
     .r 24 (.idx 1 (.t 23) (.c (.d (.int .i64 0)))),
     .o 25 (.ld1 (.t 24)),
     .r 26 (.len (.t 25)),
     .r 27 (.mv (.c (.d (.int .i64 0))))])
  sc_reply_spotOf_B1)
  (.seq (.reg [.r 43 (.aidx 1 3 (.t 4) (.c (.d (.int .i64 0)))),
     .o 44 (.ld1 (.t 43)),
     .r 45 (.aidx 1 3 (.t 4) (.c (.d (.int .i64 1)))),
     .o 46 (.ld1 (.t 45)),
     .r 47 (.aidx 1 3 (.t 4) (.c (.d (.int .i64 2)))),
     .o 48 (.ld1 (.t 47)),
     .r 49 (.build [.d (.int .i64 0), .d (.int .i64 0), .d (.int .i64 0)] [(0, 1, .t 44), (1, 1, .t 46), (2, 1, .t 48)]),
     .w 8 (.boxM (.c (.agg [.d (.int .i64 0), .d (.int .i64 0), .d (.int .i64 0)]))),
     .w 0 (.st 3 (.t 8) (.t 49))])
  (.seq (.regE [.r 50 (.ldA 3 (.t 8)),
     .r 51 (.ldA 3 (.t 8)),
     .r 52 (.build [.d (.int .i64 0), .d (.int .i64 0), .d (.int .i64 0)] []),
     .r 53 (.eqs .neq [(.int .i64), (.int .i64), (.int .i64)] (.t 51) (.t 52)),
     .x 0 (.st 3 (.t 2) (.t 50)) [(1, 51, .ldA 3 (.t 8)), (2, 52, .build [.d (.int .i64 0), .d (.int .i64 0), .d (.int .i64 0)] []), (3, 53, .eqs .neq [(.int .i64), (.int .i64), (.int .i64)] (.t 51) (.t 52))],
     .r 3 (.mv (.t 53))])
  .ret))))))
theorem fit_reply_spotOf : fits Tryz.prog 53 Tryz.f53 sc_reply_spotOf [.cell 2 3, .t 3] 1 = true := by kernel_rfl

set_option maxRecDepth 100000 in
set_option maxHeartbeats 40000000 in
noncomputable def sims_GN_2_0 : (∀ (x0 : Tapi_Segment) (x1 : Bool), {m : Option ((List UInt8) × Int × Bool × Bool) // ∀ r, m = some r → PureSpec Tryz.prog 23 [.agg (rTapi_Segment x0), .bool x1] (.tup [.str r.1, .int .i64 r.2.1, .bool r.2.2.1, .bool r.2.2.2])}) × (∀ (x0 : Tapi_Element), {m : Option (Tapi_Spot × Bool) // ∀ r, m = some r → PureSpec Tryz.prog 53 [.agg (rTapi_Element x0)] (.tup [.agg (rTapi_Spot r.1), .bool r.2])}) := by
  refine ⟨?g0, ?g1⟩
  case' g0 => (intro x0 x1; apply Subtype.mk; intro r hm; apply pure_walk Tryz.func23 fit_reply_head; unfold sc_reply_head)
  case' g1 => (intro x0; apply Subtype.mk; intro r hm; apply pure_walk Tryz.func53 fit_reply_spotOf; unfold sc_reply_spotOf)
  all_goals (repeat' (first | with_reducible refine W_seq ?_ | with_reducible refine W_reg ?_ | with_reducible refine W_regE ?_ | with_reducible refine W_block ?_ | with_reducible refine W_skip ?_ | with_reducible refine W_ret ?_ | with_reducible refine W_exit ?_ | with_reducible refine O_nil ?_ | with_reducible refine K_seq ?_ | with_reducible refine K_seqE ?_ | with_reducible refine K_seqR ?_ | with_reducible refine K_block ?_ | with_reducible refine K_blockR ?_ | with_reducible refine O_o2r ?_ | ((with_reducible apply O_idxr hm); (iterate 2 (simp only [push_cast, seval]; rfl)); (intro _; rfl); intro e hm) | ((with_reducible apply O_aidxr hm); (iterate 2 (simp only [push_cast, seval]; rfl)); intro hm) | ((with_reducible apply O_r); (simp only [push_cast, seval]; rfl); (first | exact trivial)) | ((with_reducible apply O_ldCr hm); (iterate 2 (simp only [push_cast, seval]; rfl)); intro a hm) | ((with_reducible apply O_and hm); (simp only [push_cast, seval]; rfl); rfl; intro v hm; rotate_left; intro v g hm) | ((with_reducible apply O_or hm); (simp only [push_cast, seval]; rfl); rfl; intro v hm; rotate_left; intro v g hm) | ((with_reducible apply O_cF hm); (simp only [push_cast, seval]; rfl); (first | apply spec_reply_plain _ | apply spec_kit_Number _ _); (any_goals ((repeat' (first | rfl)); done)); intro x hm) | ((with_reducible apply O_w); (simp only [push_cast, seval]; rfl); (first | exact trivial)) | ((with_reducible apply O_stC hm); (iterate 3 (simp only [push_cast, seval]; rfl)); (focus ((repeat' (first | rfl)); done)); rfl; intro e hm) | ((with_reducible apply O_x); (simp only [push_cast, seval]; rfl); (first | exact trivial); (focus ((repeat' (first | exact Rer_nil | ((with_reducible apply Rer_cons); (focus (simp only [push_cast, seval]; rfl)); (focus (first | exact trivial)); (focus (simp only [push_cast, seval]))))); done))) | ((with_reducible apply S_condB hm); (simp only [push_cast, seval]; rfl); intro hm; rotate_left; intro hm) | ((with_reducible apply K_end4 hm); (focus (simp only [resOf, resL, RV.get, push_cast, seval]; rfl)); (focus (first | (dsimp only; done))); (focus ((repeat' (first | rfl)); done))) | ((with_reducible apply K_end2 hm); (focus (simp only [resOf, resL, RV.get, push_cast, seval]; rfl)); (focus (first | (dsimp only; done))); (focus ((repeat' (first | rfl | (with_reducible first | apply fT_Tapi_Spot | apply f_tup | apply f_agg | apply f_cons))); done))) | ((with_reducible apply K_bool hm); (simp only [push_cast, seval]; rfl)) | ((with_reducible apply K_leave hm); intro r hm) | ((with_reducible apply K_leaveR hm); intro r hm) | ((apply S_loopY (b := 0) (X := sc_reply_spotOf_B1) (x := sc_reply_spotOf_L1) rfl (fun (c : SV × SV) (s : Tapi_Spot × (List Int) × Int) => st [(2, .ref 2 0), (4, .ref 4 0), (25, c.1), (26, c.2), (27, .d (.int .i64 s.2.2))] [(2, .box (dR (rTapi_Spot s.1))), (4, .box (vcells cI s.2.1))]) (c := (_, _)) (s0 := (_, _, _)) hm); (focus (first | (dsimp only; done))); (with_reducible refine Then.mk ?_ ?_)) | ((apply K_next (s' := (_, _, _)) hm); (focus (first | (dsimp only; done)))) | ((apply K_brk (s' := (_, _, _)) hm); (focus (first | (dsimp only; done)))) | (((with_reducible apply K_brkR hm); intro r hm)) | (((with_reducible apply LoopB.of); (focus (first | (dsimp only; done))); (focus ((intro _; repeat' (first | with_reducible exact impC_end | with_reducible refine impC_seq ?_)))); (intro s o hm; first | unfold sc_reply_spotOf_L1); rotate_left; intro s hm)) | (((apply imp_stT; (repeat' (first | with_reducible exact keepT_nil | with_reducible exact keepC_nil | with_reducible apply keepT_cons | with_reducible apply keepC_cons | ((with_reducible apply svle_eq); (focus (first | (simp only [push_cast, seval]; rfl) | rfl)); (focus ((repeat' (first | rfl)); done))) | ((with_reducible apply chle_eq); (focus (first | (simp only [push_cast, seval]; rfl))); (first | with_reducible exact chle_rfl rfl | with_reducible apply chle_box)) | (with_reducible first | apply cT_Tapi_Spot | apply vc_nil | apply vc_cons))); done)))))
noncomputable def m_reply_head (x0 : Tapi_Segment) (x1 : Bool) : Option ((List UInt8) × Int × Bool × Bool) := (sims_GN_2_0.1 x0 x1).1
theorem spec_reply_head (x0 : Tapi_Segment) (x1 : Bool) : ∀ r, m_reply_head x0 x1 = some r → PureSpec Tryz.prog 23 [.agg (rTapi_Segment x0), .bool x1] (.tup [.str r.1, .int .i64 r.2.1, .bool r.2.2.1, .bool r.2.2.2]) := (sims_GN_2_0.1 x0 x1).2
noncomputable def m_reply_spotOf (x0 : Tapi_Element) : Option (Tapi_Spot × Bool) := (sims_GN_2_0.2 x0).1
theorem spec_reply_spotOf (x0 : Tapi_Element) : ∀ r, m_reply_spotOf x0 = some r → PureSpec Tryz.prog 53 [.agg (rTapi_Element x0)] (.tup [.agg (rTapi_Spot r.1), .bool r.2]) := (sims_GN_2_0.2 x0).2

/-- interchange/reply.flawOf -/
def sc_reply_flawOf : SC :=
  (.seq (.reg [.r 1 (.boxI (.t 0)),
     .w 2 (.boxM (.c (.agg [.d (.int .i64 0), .d (.int .i64 0), .d (.int .i64 0), .d (.int .i64 0), .d (.int .i64 0), .d (.str [])]))),
     .r 3 (.mv (.c (.d (.bool false))))])
  (.seq (.reg [.r 16 (.fld 1 (.t 1)),
     .o 17 (.ld1 (.t 16)),
     .r 18 (.len (.t 17)),
     .r 4 (.mv (.t 18))])
  (.seq (.seq (.reg (.r 19 (.mv (.t 4)) :: .r 20 (.bin .lss (.t 19) (.c (.d (.int .i64 2)))) :: .r 21 (.mv (.t 20)) :: gapp [22, 23] 21 false (.r 22 (.mv (.t 4)) :: .r 23 (.bin .gtr (.t 22) (.c (.d (.int .i64 4)))) :: []) (.r 24 (.pick (.t 21) (.c (.d (.bool true))) (.t 23)) :: [])))
  (.cond (.t 24)
    (.seq (.reg [.r 25 (.build [.d (.int .i64 0), .d (.int .i64 0), .d (.int .i64 0), .d (.int .i64 0), .d (.int .i64 0), .d (.str [])] []),
       .w 0 (.st 6 (.t 2) (.t 25)),
       .r 3 (.mv (.c (.d (.bool false))))])
    .ret)
    .skip))
  (.seq (.reg [.r 27 (.fld 1 (.t 1)),
     .o 28 (.ld1 (.t 27)),
     .r 29 (.slc 1 (.t 28) none (some (.c (.d (.int .i64 2))))),
     .r 30 (.build [.d (.str []), .nils] [(1, 1, .t 29)]),
     .c 31 (.f 27) [.t 30],
     .r 26 (.mv (.t 31)),
     .r 32 (.ext (.t 26) 0),
     .r 33 (.ext (.t 26) 1),
     .r 5 (.mv (.t 32)),
     .r 6 (.mv (.t 33))])
  (.seq (.seq (.reg [.r 34 (.mv (.t 6)),
     .r 35 (.not (.t 34))])
  (.cond (.t 35)
    (.seq (.reg [.r 36 (.build [.d (.int .i64 0), .d (.int .i64 0), .d (.int .i64 0), .d (.int .i64 0), .d (.int .i64 0), .d (.str [])] []),
       .w 0 (.st 6 (.t 2) (.t 36)),
       .r 3 (.mv (.c (.d (.bool false))))])
    .ret)
    .skip))
  (.seq (.reg [.r 38 (.mv (.t 5)),
     .r 39 (.idx 1 (.t 38) (.c (.d (.int .i64 0)))),
     .o 40 (.ld1 (.t 39)),
     .c 41 (.f 52) [.t 40, .c (.d (.int .i64 4))],
     .r 37 (.mv (.t 41)),
     .r 42 (.ext (.t 37) 0),
     .r 43 (.ext (.t 37) 1),
     .r 7 (.mv (.t 42)),
     .r 8 (.mv (.t 43))])
  (.seq (.reg [.r 45 (.mv (.t 5)),
     .r 46 (.idx 1 (.t 45) (.c (.d (.int .i64 1)))),
     .o 47 (.ld1 (.t 46)),
     .c 48 (.f 52) [.t 47, .c (.d (.int .i64 4))],
     .r 44 (.mv (.t 48)),
     .r 49 (.ext (.t 44) 0),
     .r 50 (.ext (.t 44) 1),
     .r 9 (.mv (.t 49)),
     .r 10 (.mv (.t 50))])
  (.seq (.reg [.r 51 (.mv (.t 7)),
     .r 52 (.mv (.t 9)),
     .r 53 (.build [.d (.int .i64 0), .d (.int .i64 0), .d (.int .i64 0), .d (.int .i64 0), .d (.int .i64 0), .d (.str [])] [(0, 1, .t 51), (1, 1, .t 52)]),
     .w 11 (.boxM (.c (.agg [.d (.int .i64 0), .d (.int .i64 0), .d (.int .i64 0), .d (.int .i64 0), .d (.int .i64 0), .d (.str [])]))),
     .w 0 (.st 6 (.t 11) (.t 53))])
  (.seq (.seq (.reg (.r 54 (.mv (.t 8)) :: .r 55 (.not (.t 54)) :: .r 56 (.mv (.t 55)) :: gapp [57, 58] 56 false (.r 57 (.mv (.t 10)) :: .r 58 (.not (.t 57)) :: []) (.r 59 (.pick (.t 56) (.c (.d (.bool true))) (.t 58)) :: [])))
  (.cond (.t 59)
    (.seq (.reg [.o 60 (.ldA 6 (.t 11)),
       .w 0 (.st 6 (.t 2) (.t 60)),
       .r 3 (.mv (.c (.d (.bool false))))])
    .ret)
    .skip))
  (.seq (.seq (.reg [.r 61 (.mv (.t 4)),
     .r 62 (.bin .eql (.t 61) (.c (.d (.int .i64 4))))])
  (.cond (.t 62)
    (.seq (.reg [.r 64 (.fld 1 (.t 1)),
       .o 65 (.ld1 (.t 64)),
       .r 66 (.slc 1 (.t 65) (some (.c (.d (.int .i64 3)))) none),
       .r 67 (.build [.d (.str []), .nils] [(1, 1, .t 66)]),
       .c 68 (.f 27) [.t 67],
       .r 63 (.mv (.t 68)),
       .r 69 (.ext (.t 63) 0),
       .r 70 (.ext (.t 63) 1),
       .r 12 (.mv (.t 69)),
       .r 13 (.mv (.t 70))])
    (.seq (.seq (.reg (.r 71 (.mv (.t 13)) :: .r 72 (.not (.t 71)) :: .r 73 (.mv (.t 72)) :: gapp [74, 75, 76, 77] 73 false (.r 74 (.mv (.t 12)) :: .r 75 (.idx 1 (.t 74) (.c (.d (.int .i64 0)))) :: .r 76 (.ld1 (.t 75)) :: .r 77 (.bin .eql (.t 76) (.c (.d (.str [])))) :: []) (.r 78 (.pick (.t 73) (.c (.d (.bool true))) (.t 77)) :: [])))
    (.cond (.t 78)
      (.seq (.reg [.o 79 (.ldA 6 (.t 11)),
         .w 0 (.st 6 (.t 2) (.t 79)),
         .r 3 (.mv (.c (.d (.bool false))))])
      .ret)
      .skip))
    (.seq (.reg [.r 80 (.mv (.t 12)),
       .r 81 (.idx 1 (.t 80) (.c (.d (.int .i64 0)))),
       .o 82 (.ld1 (.t 81)),
       .r 83 (.fld 5 (.t 11)),
       .w 0 (.st 1 (.t 83) (.t 82))])
    (.seq (.reg [.r 85 (.fld 1 (.t 1)),
       .o 86 (.ld1 (.t 85)),
       .r 87 (.slc 1 (.t 86) (some (.c (.d (.int .i64 2)))) (some (.c (.d (.int .i64 3))))),
       .r 88 (.build [.d (.str []), .nils] [(1, 1, .t 87)]),
       .c 89 (.f 27) [.t 88],
       .r 84 (.mv (.t 89)),
       .r 90 (.ext (.t 84) 0),
       .r 91 (.ext (.t 84) 1),
       .r 14 (.mv (.t 90)),
       .r 15 (.mv (.t 91))])
    (.seq (.reg (.r 92 (.mv (.t 15)) :: .r 93 (.mv (.t 92)) :: gapp [94, 95, 96, 97] 93 true (.r 94 (.mv (.t 14)) :: .r 95 (.idx 1 (.t 94) (.c (.d (.int .i64 0)))) :: .r 96 (.ld1 (.t 95)) :: .r 97 (.bin .eql (.t 96) (.c (.d (.str [])))) :: []) (.r 98 (.pick (.t 93) (.t 97) (.c (.d (.bool false)))) :: [])))
    (.cond (.t 98)
      (.seq (.reg [.o 99 (.ldA 6 (.t 11)),
         .w 0 (.st 6 (.t 2) (.t 99)),
         .r 3 (.mv (.c (.d (.bool true))))])
      .ret)
      .skip))))))
    .skip))
  (.seq (.seq (.reg [.r 100 (.mv (.t 4)),
     .r 101 (.bin .gtr (.t 100) (.c (.d (.int .i64 2))))])
  (.cond (.t 101)
    (.reg [.r 103 (.fld 1 (.t 1)),
       .o 104 (.ld1 (.t 103)),
       .r 105 (.idx 1 (.t 104) (.c (.d (.int .i64 2)))),
       .o 106 (.ldA 1 (.t 105)),
       .c 107 (.f 53) [.t 106],
       .r 102 (.mv (.t 107)),
       .r 108 (.ext (.t 102) 0),
       .r 109 (.ext (.t 102) 1),
       .r 110 (.fld 2 (.t 11)),
       .w 0 (.st 3 (.t 110) (.t 108)),
       .r 6 (.mv (.t 109))])
    .skip))
  (.seq (.reg [.o 111 (.ldA 6 (.t 11)),
     .r 112 (.mv (.t 6)),
     .w 0 (.st 6 (.t 2) (.t 111)),
     .r 3 (.mv (.t 112))])
  .ret))))))))))))
theorem fit_reply_flawOf : fits Tryz.prog 26 Tryz.f26 sc_reply_flawOf [.cell 2 6, .t 3] 1 = true := by kernel_rfl

set_option maxRecDepth 100000 in
set_option maxHeartbeats 40000000 in
noncomputable def sims_GN_3_0 : (∀ (x0 : Tapi_Segment), {m : Option (Tapi_Flaw × Bool) // ∀ r, m = some r → PureSpec Tryz.prog 26 [.agg (rTapi_Segment x0)] (.tup [.agg (rTapi_Flaw r.1), .bool r.2])}) := by
  (intro x0; apply Subtype.mk; intro r hm; apply pure_walk Tryz.func26 fit_reply_flawOf; unfold sc_reply_flawOf)
  repeat' (first | with_reducible refine W_seq ?_ | with_reducible refine W_reg ?_ | with_reducible refine W_skip ?_ | with_reducible refine W_ret ?_ | with_reducible refine O_nil ?_ | with_reducible refine K_seq ?_ | with_reducible refine K_seqR ?_ | with_reducible refine O_o2r ?_ | ((with_reducible apply O_idxr hm); (iterate 2 (simp only [push_cast, seval]; rfl)); (intro _; rfl); intro e hm) | ((with_reducible apply O_slcr hm); (iterate 3 (simp only [push_cast, seval]; rfl)); (intro _; rfl); intro e hm) | ((with_reducible apply O_r); (simp only [push_cast, seval]; rfl); (first | exact trivial)) | ((with_reducible apply O_and hm); (simp only [push_cast, seval]; rfl); rfl; intro v hm; rotate_left; intro v g hm) | ((with_reducible apply O_or hm); (simp only [push_cast, seval]; rfl); rfl; intro v hm; rotate_left; intro v g hm) | ((with_reducible apply O_cF hm); (simp only [push_cast, seval]; rfl); (first | apply spec_reply_plain _ | apply spec_kit_Number _ _ | apply spec_reply_spotOf _); (any_goals ((repeat' (first | rfl | (with_reducible first | apply fT_Tapi_Segment | apply f_agg | apply f_cons))); done)); intro x hm) | ((with_reducible apply O_w); (simp only [push_cast, seval]; rfl); (first | exact trivial)) | ((with_reducible apply S_condB hm); (simp only [push_cast, seval]; rfl); intro hm; rotate_left; intro hm) | ((with_reducible apply K_end2 hm); (focus (simp only [resOf, resL, RV.get, push_cast, seval]; rfl)); (focus (first | (dsimp only; done))); (focus ((repeat' (first | rfl | (with_reducible first | apply fT_Tapi_Flaw | apply fT_Tapi_Spot | apply f_tup | apply f_agg | apply f_cons))); done))) | ((with_reducible apply K_bool hm); (simp only [push_cast, seval]; rfl)))
noncomputable def m_reply_flawOf (x0 : Tapi_Segment) : Option (Tapi_Flaw × Bool) := (sims_GN_3_0 x0).1
theorem spec_reply_flawOf (x0 : Tapi_Segment) : ∀ r, m_reply_flawOf x0 = some r → PureSpec Tryz.prog 26 [.agg (rTapi_Segment x0)] (.tup [.agg (rTapi_Flaw r.1), .bool r.2]) := (sims_GN_3_0 x0).2

end Go.Proofs.YtcbdpjgejbcpgaaGreatDoor
