/-
  Texts of mine, one behind the other (SHShelf, SHLibT, SHShelfI, SHLibI, SHShelfR, SHLibR, SHLibO, SHLibP, SHLibC, SHShelfC, SHLibF, SHF1, SHG1, SHLibD, SHG2, SHRow, SHPL, SHPM, SHH1, SHH2, SHH3).
-/
import Derived.Ground.NamesProg
import Derived.Shelf.Strings.SlTrimAscii
import Derived.Shelf.Small.Strs
import Derived.Shelf.Strings.IndexAnyAll
import Derived.Test.YthcfbglbjipdaaaDoorProg
import Derived.Test.YthcfbglbjipdaaaDoorSHEngY
import Derived.KernelRfl
import Derived.Shelf.Strconv.Itoa3
import Derived.Shelf.Strings.Repeat
import Derived.Test.YthcfbglbjipdaaaDoorSHEngX
import Derived.Shelf.SlicesE.Clone
import Derived.Shelf.SlGeneric
import Derived.Ground.SlgnProg
import Derived.Test.YthcfbglbjipdaaaDoorSHEngZz
import Derived.Test.YthcfbglbjipdaaaDoorSHEngRk
import Derived.Test.YthcfbglbjipdaaaDoorCards
import Derived.Test.YthcfbglbjipdaaaDoorTie
import Derived.Test.YthcfbglbjipdaaaDoorSHEngR
import Derived.Lib.ItoaLen
import Derived.Lib.Repeat
/-
  DERIVED: THE SHELF's CONTRACTS AT THIS DUMP, IN PLAIN WORDS (tools/lay-plain.mjs out of 'YthcfbglbjipdaaaDoorShelf.lean', which tools/lay-shelf.mjs wrote): THE SAME DECLARATIONS UNDER THE SAME NAMES: 'import', 'namespace', 'open', 'def', 'theorem' AND NOTHING ELSE: no command of the shelf's: FOR A HAND-IN. Each laying: the table of numbers ('.._ren') and one theorem, a field a fact of the dump's own or the kernel's comparison; each contract: ONE APPLICATION.
-/
namespace Go.Proofs
open Go.Shelf
def Tryd.lays160_ren : Go.Shelf.Ren := ⟨fun | 160 => 19 | 232 => 32 | 231 => 31 | 227 => 33 | 234 => 35 | 233 => 34 | 236 => 37 | 235 => 36 | 228 => 45 | 271 => 48 | 151 => 47 | 197 => 46 | 120 => 58 | 152 => 57 | 260 => 56 | 137 => 64 | 119 => 65 | 224 => 66 | 225 => 67 | 217 => 70 | 266 => 71 | n => n, fun | 9 => 9 | 4 => 4 | 3 => 3 | 5 => 5 | 117 => 70 | 116 => 69 | 0 => 0 | 124 => 73 | 21 => 21 | 105 => 81 | 46 => 52 | 119 => 99 | 139 => 102 | 138 => 101 | n => n, fun | 3 => 2 | 4 => 3 | n => n⟩
theorem Tryd.lays160 : Go.Proofs.Lays.n160 Tryd.prog Tryd.lays160_ren := {
  mixed := by kernel_rfl
  f119 := Tryd.func65.trans (congrArg some (by kernel_rfl))
  f120 := Tryd.func58.trans (congrArg some (by kernel_rfl))
  f137 := Tryd.func64.trans (congrArg some (by kernel_rfl))
  f151 := Tryd.func47.trans (congrArg some (by kernel_rfl))
  f152 := Tryd.func57.trans (congrArg some (by kernel_rfl))
  f160 := Tryd.func19.trans (congrArg some (by kernel_rfl))
  f197 := Tryd.func46.trans (congrArg some (by kernel_rfl))
  f217 := Tryd.func70.trans (congrArg some (by kernel_rfl))
  f224 := Tryd.func66.trans (congrArg some (by kernel_rfl))
  f225 := Tryd.func67.trans (congrArg some (by kernel_rfl))
  f227 := Tryd.func33.trans (congrArg some (by kernel_rfl))
  f228 := Tryd.func45.trans (congrArg some (by kernel_rfl))
  f231 := Tryd.func31.trans (congrArg some (by kernel_rfl))
  f232 := Tryd.func32.trans (congrArg some (by kernel_rfl))
  f233 := Tryd.func34.trans (congrArg some (by kernel_rfl))
  f234 := Tryd.func35.trans (congrArg some (by kernel_rfl))
  f235 := Tryd.func36.trans (congrArg some (by kernel_rfl))
  f236 := Tryd.func37.trans (congrArg some (by kernel_rfl))
  f260 := Tryd.func56.trans (congrArg some (by kernel_rfl))
  f266 := Tryd.func71.trans (congrArg some (by kernel_rfl))
  f271 := Tryd.func48.trans (congrArg some (by kernel_rfl))
  t0 := Tryd.underlying0
  a0 := Tryd.isAgg0
  z0 := Tryd.sizeOf0
  v0 := Tryd.zeroValue0
  t3 := Tryd.underlying3
  a3 := Tryd.isAgg3
  z3 := Tryd.sizeOf3
  v3 := Tryd.zeroValue3
  t4 := Tryd.underlying4
  a4 := Tryd.isAgg4
  z4 := Tryd.sizeOf4
  v4 := Tryd.zeroValue4
  t5 := Tryd.underlying5
  a5 := Tryd.isAgg5
  z5 := Tryd.sizeOf5
  v5 := Tryd.zeroValue5
  t9 := Tryd.underlying9
  a9 := Tryd.isAgg9
  z9 := Tryd.sizeOf9
  v9 := Tryd.zeroValue9
  t21 := Tryd.underlying21
  a21 := Tryd.isAgg21
  z21 := Tryd.sizeOf21
  v21 := Tryd.zeroValue21
  t46 := Tryd.underlying52
  a46 := Tryd.isAgg52
  z46 := Tryd.sizeOf52
  v46 := Tryd.zeroValue52
  t105 := Tryd.underlying81
  a105 := Tryd.isAgg81
  z105 := Tryd.sizeOf81
  v105 := Tryd.zeroValue81
  t116 := Tryd.underlying69
  a116 := Tryd.isAgg69
  z116 := Tryd.sizeOf69
  t117 := Tryd.underlying70
  a117 := Tryd.isAgg70
  z117 := Tryd.sizeOf70
  v117 := Tryd.zeroValue70
  t119 := Tryd.underlying99
  a119 := Tryd.isAgg99
  z119 := Tryd.sizeOf99
  t124 := Tryd.underlying73
  a124 := Tryd.isAgg73
  z124 := Tryd.sizeOf73
  v124 := Tryd.zeroValue73
  t138 := Tryd.underlying101
  a138 := Tryd.isAgg101
  z138 := Tryd.sizeOf101
  v138 := Tryd.zeroValue101
  t139 := Tryd.underlying102
  a139 := Tryd.isAgg102
  z139 := Tryd.sizeOf102
  v139 := Tryd.zeroValue102
  g3 := by kernel_rfl
  g4 := by kernel_rfl }
end Go.Proofs

/-
  strings.Trim at a set of ASCII bytes.
-/
namespace Go.Proofs.YthcfbglbjipdaaaDoor
set_option linter.unusedSimpArgs false
set_option linter.unusedVariables false
open Go.RowKit Go.Shelf

def m_strings_Trim (s cs : List UInt8) : Option (List UInt8) := if s.length ≤ 9223372036854775807 ∧ cs.length < 4294967281 ∧ cs.all (fun b => decide (b.toNat < 128)) = true then some (Lib.trimS s cs) else none
theorem spec_strings_Trim (s cs : List UInt8) : ∀ r, m_strings_Trim s cs = some r → PureSpec Tryd.prog 19 [.str s, .str cs] (.str r) := by
  intro r hr
  unfold m_strings_Trim at hr
  split at hr
  · rename_i h
    obtain ⟨h1, h2, h3⟩ := h
    cases hr
    refine ⟨by kernel_rfl, fun w M vs hM hv _ => ?_⟩
    simp only [RepL, Rep] at hv
    obtain ⟨u, us, rfl, rfl, u', us', rfl, rfl, rfl⟩ := hv
    have hcon := Any.strings_Trim_laid Tryd.lays160 (by kernel_rfl) ⟨s.toArray⟩ ⟨cs.toArray⟩ w (by simpa [ByteArray.size] using h1) (by simpa [ByteArray.size] using h2) (ascii_of_all (by simpa using h3))
    refine Calls.mono hcon ?_
    rintro e w' ⟨rfl, hB⟩
    exact ⟨_, rfl, by simp [Rep], hB⟩
  · cases hr
end Go.Proofs.YthcfbglbjipdaaaDoor

/-
  DERIVED: THE SHELF's CONTRACTS AT THIS DUMP, IN PLAIN WORDS (tools/lay-plain.mjs out of 'YthcfbglbjipdaaaDoorShelfI.lean', which tools/lay-shelf.mjs wrote): THE SAME DECLARATIONS UNDER THE SAME NAMES: 'import', 'namespace', 'open', 'def', 'theorem' AND NOTHING ELSE: no command of the shelf's: FOR A HAND-IN. Each laying: the table of numbers ('.._ren') and one theorem, a field a fact of the dump's own or the kernel's comparison; each contract: ONE APPLICATION.
-/
namespace Go.Proofs
open Go.Shelf
def Tryd.lays171_ren : Go.Shelf.Ren := ⟨fun | 171 => 30 | 243 => 44 | 246 => 55 | 283 => 49 | 284 => 50 | 285 => 51 | 286 => 52 | 129 => 60 | 317 => 59 | 318 => 61 | 319 => 62 | 320 => 63 | 337 => 68 | 338 => 69 | n => n, fun | 3 => 3 | 9 => 9 | 2 => 2 | 4 => 4 | 171 => 84 | 0 => 0 | 53 => 50 | 37 => 43 | 5 => 5 | 173 => 87 | 212 => 96 | 51 => 74 | 20 => 20 | 213 => 97 | 46 => 52 | 232 => 107 | 233 => 108 | n => n, fun | 17 => 0 | 18 => 4 | 19 => 5 | n => n⟩
theorem Tryd.lays171 : Go.Proofs.LaysM.n171 Tryd.prog Tryd.lays171_ren := {
  mixed := by kernel_rfl
  f129 := Tryd.func60.trans (congrArg some (by kernel_rfl))
  f171 := Tryd.func30.trans (congrArg some (by kernel_rfl))
  f243 := Tryd.func44.trans (congrArg some (by kernel_rfl))
  f246 := Tryd.func55.trans (congrArg some (by kernel_rfl))
  f283 := Tryd.func49.trans (congrArg some (by kernel_rfl))
  f284 := Tryd.func50.trans (congrArg some (by kernel_rfl))
  f285 := Tryd.func51.trans (congrArg some (by kernel_rfl))
  f286 := Tryd.func52.trans (congrArg some (by kernel_rfl))
  f317 := Tryd.func59.trans (congrArg some (by kernel_rfl))
  f318 := Tryd.func61.trans (congrArg some (by kernel_rfl))
  f319 := Tryd.func62.trans (congrArg some (by kernel_rfl))
  f320 := Tryd.func63.trans (congrArg some (by kernel_rfl))
  f337 := Tryd.func68.trans (congrArg some (by kernel_rfl))
  f338 := Tryd.func69.trans (congrArg some (by kernel_rfl))
  t0 := Tryd.underlying0
  a0 := Tryd.isAgg0
  z0 := Tryd.sizeOf0
  v0 := Tryd.zeroValue0
  t2 := Tryd.underlying2
  a2 := Tryd.isAgg2
  z2 := Tryd.sizeOf2
  v2 := Tryd.zeroValue2
  t3 := Tryd.underlying3
  a3 := Tryd.isAgg3
  z3 := Tryd.sizeOf3
  v3 := Tryd.zeroValue3
  t4 := Tryd.underlying4
  a4 := Tryd.isAgg4
  z4 := Tryd.sizeOf4
  v4 := Tryd.zeroValue4
  t5 := Tryd.underlying5
  a5 := Tryd.isAgg5
  z5 := Tryd.sizeOf5
  v5 := Tryd.zeroValue5
  t9 := Tryd.underlying9
  a9 := Tryd.isAgg9
  z9 := Tryd.sizeOf9
  v9 := Tryd.zeroValue9
  t20 := Tryd.underlying20
  a20 := Tryd.isAgg20
  z20 := Tryd.sizeOf20
  v20 := Tryd.zeroValue20
  t37 := Tryd.underlying43
  a37 := Tryd.isAgg43
  z37 := Tryd.sizeOf43
  v37 := Tryd.zeroValue43
  t46 := Tryd.underlying52
  a46 := Tryd.isAgg52
  z46 := Tryd.sizeOf52
  v46 := Tryd.zeroValue52
  t51 := Tryd.underlying74
  a51 := Tryd.isAgg74
  z51 := Tryd.sizeOf74
  v51 := Tryd.zeroValue74
  t53 := Tryd.underlying50
  a53 := Tryd.isAgg50
  z53 := Tryd.sizeOf50
  v53 := Tryd.zeroValue50
  t171 := Tryd.underlying84
  a171 := Tryd.isAgg84
  z171 := Tryd.sizeOf84
  v171 := Tryd.zeroValue84
  t173 := Tryd.underlying87
  a173 := Tryd.isAgg87
  z173 := Tryd.sizeOf87
  v173 := Tryd.zeroValue87
  t212 := Tryd.underlying96
  a212 := Tryd.isAgg96
  z212 := Tryd.sizeOf96
  v212 := Tryd.zeroValue96
  t213 := Tryd.underlying97
  a213 := Tryd.isAgg97
  z213 := Tryd.sizeOf97
  t232 := Tryd.underlying107
  a232 := Tryd.isAgg107
  z232 := Tryd.sizeOf107
  v232 := Tryd.zeroValue107
  t233 := Tryd.underlying108
  a233 := Tryd.isAgg108
  z233 := Tryd.sizeOf108
  v233 := Tryd.zeroValue108
  g17 := by kernel_rfl
  g18 := by kernel_rfl
  g19 := by kernel_rfl
  i0 := by kernel_rfl
  i2 := by kernel_rfl
  i3 := by kernel_rfl
  i4 := by kernel_rfl
  i5 := by kernel_rfl
  i9 := by kernel_rfl
  i20 := by kernel_rfl
  i37 := by kernel_rfl
  i46 := by kernel_rfl
  i51 := by kernel_rfl
  i53 := by kernel_rfl
  i171 := by kernel_rfl
  i173 := by kernel_rfl
  i212 := by kernel_rfl
  i232 := by kernel_rfl
  i233 := by kernel_rfl
  m17 := by kernel_rfl
  m18 := by kernel_rfl
  m19 := by kernel_rfl }
end Go.Proofs

/-
  strconv.Itoa, over the table of the powers of ten.
-/
namespace Go.Proofs.YthcfbglbjipdaaaDoor
set_option linter.unusedSimpArgs false
set_option linter.unusedVariables false
open Go.RowKit Go.Shelf

theorem below_grow (w : World) (k : Nat) (os : Array Obj) : Below w.heap.size w (Go.Sort.grow (w.drewN k) os) := by
  refine ⟨rfl, rfl, rfl, ?_, fun i hi => ?_⟩
  · show w.heap.size ≤ (w.heap ++ os).size
    rw [Array.size_append]; omega
  · show (w.heap ++ os)[i]? = w.heap[i]?
    rw [Array.getElem?_append_left hi]
theorem tab_pow10 {w : World} (h : Good w) : Lib.TabIs Tryd.prog w "internal/strconv.uint64pow10" .u64 Lib.pow10Tab := by
  obtain ⟨u, f, hc⟩ := h (0, .u64, Lib.pow10Tab) (by unfold tabs; exact List.mem_of_getElem? (i := 0) rfl)
  unfold Lib.TabIs World.var?
  rw [show Tryd.prog.globalNamed "internal/strconv.uint64pow10" = some 0 by kernel_rfl]
  simp only [Option.bind_some]
  rw [hc]
def m_strconv_Itoa (n : Int) : Option (List UInt8) := if -9223372036854775808 ≤ n ∧ n ≤ 9223372036854775807 then some (Lib.itoa n) else none
theorem spec_strconv_Itoa (n : Int) : ∀ r, m_strconv_Itoa n = some r → PureSpec Tryd.prog 30 [.int .i64 n] (.str r) := by
  intro r hr
  unfold m_strconv_Itoa at hr
  split at hr
  · rename_i h
    cases hr
    refine ⟨by kernel_rfl, fun w M vs hM hv hgood => ?_⟩
    simp only [RepL, Rep] at hv
    obtain ⟨u, us, rfl, rfl, rfl⟩ := hv
    refine Calls.mono (Any.strconv_Itoa Tryd.lays171 n h.1 h.2 w (tab_pow10 hgood)) ?_
    rintro e w' ⟨rfl, k, os, rfl⟩
    exact ⟨_, rfl, by simp [Rep], below_grow w k os⟩
  · cases hr
end Go.Proofs.YthcfbglbjipdaaaDoor

/-
  DERIVED: THE SHELF's CONTRACTS AT THIS DUMP, IN PLAIN WORDS (tools/lay-plain.mjs out of 'YthcfbglbjipdaaaDoorShelfR.lean', which tools/lay-shelf.mjs wrote): THE SAME DECLARATIONS UNDER THE SAME NAMES: 'import', 'namespace', 'open', 'def', 'theorem' AND NOTHING ELSE: no command of the shelf's: FOR A HAND-IN. Each laying: the table of numbers ('.._ren') and one theorem, a field a fact of the dump's own or the kernel's comparison; each contract: ONE APPLICATION.
-/
namespace Go.Proofs
open Go.Shelf
def Tryd.lays105_ren : Go.Shelf.Ren := ⟨fun | 105 => 17 | 212 => 24 | 99 => 25 | 165 => 26 | 166 => 27 | 170 => 28 | 169 => 29 | 263 => 39 | 264 => 40 | 206 => 41 | 240 => 42 | 241 => 43 | 276 => 53 | 277 => 54 | n => n, fun | 9 => 9 | 3 => 3 | 4 => 4 | 20 => 20 | 0 => 0 | 46 => 52 | 109 => 53 | 5 => 5 | 72 => 58 | 76 => 62 | 51 => 74 | 146 => 75 | 53 => 50 | 148 => 77 | 70 => 56 | 37 => 43 | 75 => 61 | 127 => 79 | 164 => 89 | 80 => 65 | n => n, fun | n => n⟩
theorem Tryd.lays105 : Go.Proofs.Lays.n105 Tryd.prog Tryd.lays105_ren := {
  mixed := by kernel_rfl
  f99 := Tryd.func25.trans (congrArg some (by kernel_rfl))
  f105 := Tryd.func17.trans (congrArg some (by kernel_rfl))
  f165 := Tryd.func26.trans (congrArg some (by kernel_rfl))
  f166 := Tryd.func27.trans (congrArg some (by kernel_rfl))
  f169 := Tryd.func29.trans (congrArg some (by kernel_rfl))
  f170 := Tryd.func28.trans (congrArg some (by kernel_rfl))
  f206 := Tryd.func41.trans (congrArg some (by kernel_rfl))
  f212 := Tryd.func24.trans (congrArg some (by kernel_rfl))
  f240 := Tryd.func42.trans (congrArg some (by kernel_rfl))
  f241 := Tryd.func43.trans (congrArg some (by kernel_rfl))
  f263 := Tryd.func39.trans (congrArg some (by kernel_rfl))
  f264 := Tryd.func40.trans (congrArg some (by kernel_rfl))
  f276 := Tryd.func53.trans (congrArg some (by kernel_rfl))
  f277 := Tryd.func54.trans (congrArg some (by kernel_rfl))
  t0 := Tryd.underlying0
  a0 := Tryd.isAgg0
  z0 := Tryd.sizeOf0
  v0 := Tryd.zeroValue0
  t3 := Tryd.underlying3
  a3 := Tryd.isAgg3
  z3 := Tryd.sizeOf3
  v3 := Tryd.zeroValue3
  t4 := Tryd.underlying4
  a4 := Tryd.isAgg4
  z4 := Tryd.sizeOf4
  v4 := Tryd.zeroValue4
  t5 := Tryd.underlying5
  a5 := Tryd.isAgg5
  z5 := Tryd.sizeOf5
  v5 := Tryd.zeroValue5
  t9 := Tryd.underlying9
  a9 := Tryd.isAgg9
  z9 := Tryd.sizeOf9
  v9 := Tryd.zeroValue9
  t20 := Tryd.underlying20
  a20 := Tryd.isAgg20
  z20 := Tryd.sizeOf20
  v20 := Tryd.zeroValue20
  t37 := Tryd.underlying43
  a37 := Tryd.isAgg43
  z37 := Tryd.sizeOf43
  v37 := Tryd.zeroValue43
  t46 := Tryd.underlying52
  a46 := Tryd.isAgg52
  z46 := Tryd.sizeOf52
  v46 := Tryd.zeroValue52
  t51 := Tryd.underlying74
  a51 := Tryd.isAgg74
  z51 := Tryd.sizeOf74
  v51 := Tryd.zeroValue74
  t53 := Tryd.underlying50
  a53 := Tryd.isAgg50
  z53 := Tryd.sizeOf50
  v53 := Tryd.zeroValue50
  t70 := Tryd.underlying56
  a70 := Tryd.isAgg56
  z70 := Tryd.sizeOf56
  v70 := Tryd.zeroValue56
  t72 := Tryd.underlying58
  a72 := Tryd.isAgg58
  z72 := Tryd.sizeOf58
  v72 := Tryd.zeroValue58
  t75 := Tryd.underlying61
  a75 := Tryd.isAgg61
  z75 := Tryd.sizeOf61
  v75 := Tryd.zeroValue61
  t76 := Tryd.underlying62
  a76 := Tryd.isAgg62
  z76 := Tryd.sizeOf62
  v76 := Tryd.zeroValue62
  t109 := Tryd.underlying53
  a109 := Tryd.isAgg53
  z109 := Tryd.sizeOf53
  v109 := Tryd.zeroValue53
  t127 := Tryd.underlying79
  a127 := Tryd.isAgg79
  z127 := Tryd.sizeOf79
  v127 := Tryd.zeroValue79
  t146 := Tryd.underlying75
  a146 := Tryd.isAgg75
  z146 := Tryd.sizeOf75
  v146 := Tryd.zeroValue75
  t148 := Tryd.underlying77
  a148 := Tryd.isAgg77
  z148 := Tryd.sizeOf77
  v148 := Tryd.zeroValue77
  t164 := Tryd.underlying89
  a164 := Tryd.isAgg89
  z164 := Tryd.sizeOf89
  v164 := Tryd.zeroValue89 }
end Go.Proofs

/-
  strings.Repeat.
-/
namespace Go.Proofs.YthcfbglbjipdaaaDoor
set_option linter.unusedSimpArgs false
set_option linter.unusedVariables false
open Go.RowKit Go.Shelf

set_option maxRecDepth 100000 in
theorem builderX : Go.Proofs.Builder.Extra Tryd.prog Tryd.lays105_ren where
  sizeBuilder := by kernel_rfl
  liesBuilder := by kernel_rfl
  t5 := Tryd.underlying5
  a5 := Tryd.isAgg5
  z5 := Tryd.sizeOf5
  v5 := Tryd.zeroValue5
  infoByte := by kernel_rfl
  cellsByte := by kernel_rfl
  sizeByte := by kernel_rfl
  neB5 := by decide
def m_strings_Repeat (s : List UInt8) (c : Int) : Option (List UInt8) := if 0 ≤ c ∧ c ≤ 1000000 ∧ s.length ≤ 1000000 then some (Lib.repeatL s c.toNat) else none
theorem spec_strings_Repeat (s : List UInt8) (c : Int) : ∀ r, m_strings_Repeat s c = some r → PureSpec Tryd.prog 17 [.str s, .int .i64 c] (.str r) := by
  intro r hr
  unfold m_strings_Repeat at hr
  split at hr
  · rename_i h
    cases hr
    obtain ⟨h0, h1, h2⟩ := h
    obtain ⟨k, rfl⟩ : ∃ k : Nat, c = (k : Int) := ⟨c.toNat, by omega⟩
    refine ⟨by kernel_rfl, fun w M vs hM hv hgood => ?_⟩
    simp only [RepL, Rep] at hv
    obtain ⟨u, us, rfl, rfl, u', us', rfl, rfl, rfl⟩ := hv
    have hs : (⟨s.toArray⟩ : ByteArray).size = s.length := by simp [ByteArray.size]
    have hk : k ≤ 1000000 := by omega
    refine Calls.mono (Any.strings_Repeat Tryd.lays105 builderX ⟨s.toArray⟩ k w (by omega) (by rw [hs]; exact Nat.le_trans (Nat.mul_le_mul h2 hk) (by decide))) ?_
    rintro e w' ⟨rfl, hB⟩
    exact ⟨_, rfl, by simp [Rep], hB⟩
  · cases hr
end Go.Proofs.YthcfbglbjipdaaaDoor

/-
  A row that a call has made, as data.
-/
namespace Go.Proofs.YthcfbglbjipdaaaDoor
set_option linter.unusedSimpArgs false
set_option linter.unusedVariables false
open Go.RowKit Go.Lib
theorem dR_toDVs : ∀ (l : List DV), SV.toDVs (dR l) = some l
  | [] => rfl
  | d :: l => by
    have ih := dR_toDVs l
    simp only [dR, List.map_cons, SV.toDVs, SV.toDV] at ih ⊢
    rw [ih]
end Go.Proofs.YthcfbglbjipdaaaDoor

/-
  Calls whose result is an owned slice.
-/
namespace Go.Proofs.YthcfbglbjipdaaaDoor
set_option linter.unusedSimpArgs false
set_option linter.unusedVariables false
open Go.RowKit Go.Lib

theorem dR_flat : ∀ (rows : List (List DV)), (rows.map dR).flatten = dR rows.flatten
  | [] => rfl
  | r :: rows => by
    have ih := dR_flat rows
    simp only [dR, List.map_cons, List.flatten_cons, List.map_append] at ih ⊢
    rw [ih]
/-- A contract whose result is an owned slice, out of what the kit says of the call. -/
theorem own_spec {P : Program} {f : FuncId} {args : List DV} {rows : List (List DV)} {size e : Nat} (hcall : callable P f = true) (hall : ∀ r ∈ rows, r.length = size)
    (h : ∀ (w : World) (M : Nat → Prop) (vs : List Value), (∀ b, M b → b < w.heap.size) → RepL w M args vs → Calls P f vs.toArray w fun ev w' => ∃ v news, ev = .returned v ∧ w'.ownsRow w.heap.size e size v rows.length news ∧ RepL w M rows.flatten news ∧ (∀ u ∈ news, u.oneCell' = true) ∧ Below w.heap.size w w') :
    FSpec P f (args.map .d) (.own (.sl e (List.replicate size .sh)) (.slice rows)) (args.map .d) := by
  refine ⟨hcall, fun w M vs F hM hF hn hv _ _ => ?_⟩
  have hno : SV.noOwns (args.map SV.d) = true := toDVs_noOwns _ _ (dR_toDVs args)
  obtain ⟨hS, rfl⟩ := RepGL.to_S _ _ _ hno hv
  have hR := RepSL.toDVs _ _ _ hS (dR_toDVs args)
  refine (h w _ vs (fun b hb => by rcases hb with hb | hb; exact (hM b hb).1; cases hb) hR).mono ?_
  rintro ev w' ⟨v, news, rfl, ho, hnews, h1, hB⟩
  have hfresh : ∀ b ∈ blkL v, w.heap.size ≤ b ∧ b < w'.heap.size := by
    intro b hb
    rcases ho.2 with ⟨rfl, _⟩ | ⟨g, cap, cur, rfl, hb2, hg, _⟩
    · simp [blkL, blk] at hb
    · simp [blkL, blk] at hb
      subst hb
      exact ⟨hb2, (Array.getElem?_eq_some_iff.1 hg).1⟩
  have hext : Ext w (fun b => M b ∨ b ∈ ([] : List Nat)) w' (fun b => M b ∨ b ∈ [] ++ blkL v) := ⟨hB.size, fun b hb hm => ⟨hB.block b hb, fun hm' => by
    rcases hm' with hm' | hm'
    · exact hm (.inl hm')
    · have := (hfresh b (by simpa using hm')).1; omega⟩⟩
  refine ⟨v, [], blkL v, rfl, RepGL.of_S _ _ (RepSL.of_d (hR.ext hext)), ?_, ?_, ?_, Chg.of_below hB⟩
  · unfold RepG RepO
    refine ⟨rows, news, [], rfl, ⟨by simpa using ho.1, ?_⟩, h1, by simpa using hall, ?_, by simp⟩
    · rcases ho.2 with hn | ⟨g, cap, cur, hv, hb, rest⟩
      · exact .inl hn
      · simp only [List.length_replicate]
        exact .inr ⟨g, cap, cur, hv, Nat.zero_le _, rest⟩
    · refine (ownRows_iff (κ := κ0) (by simpa using hall)).1 ?_
      have e1 : rows.map (ownR (List.replicate size .sh)) = rows.map dR := List.map_congr_left fun r hr => by
        have := ownR_sh (row := fun _ : Unit => r) (n := size) (fun _ => hall r hr) [()]
        simpa [vrow] using this
      rw [e1, dR_flat]
      exact RepGL.of_S _ _ (RepSL.of_d (hnews.ext hext))
  · cases hv' : blk v with
    | none => simp [blkL, hv']
    | some b => simp [blkL, hv']
  · intro b hb
    have := hfresh b (by simpa using hb)
    exact ⟨.inr this.1, this.2⟩

end Go.Proofs.YthcfbglbjipdaaaDoor

/-
  slices.Clone at any element type, as a contract over data values: what comes back is owned.
-/
namespace Go.Proofs.YthcfbglbjipdaaaDoor
set_option linter.unusedSimpArgs false
set_option linter.unusedVariables false
open Go.RowKit Go.Shelf Go.Lib
variable {P : Program} {ρ : Ren}

set_option maxHeartbeats 2000000 in
set_option maxRecDepth 100000 in
/-- A slice of length 0 that is not nil, whatever its address. -/
theorem clone_zero (L : SlLaysE0.n41 P ρ) (i0 : TypeInfo) (z : Value) (size bytes : Nat) (hi : P.info? (ρ.t 23) = some i0) (hz0 : i0.zero = some z) (hz1 : i0.size = size) (hz2 : i0.bytes = bytes) (hzs : z.cells.size = size) (hsz : 0 < size)
    (z23 : ∀ w, (Go.sizeOf (ρ.t 23)).run P w = .ok size w) (p : Addr) (c : Nat) (w : World) :
    Calls P (ρ.f 41) #[.slice (some p) 0 c] w fun e w' => ∃ v', e = .returned v' ∧ w'.ownsRow w.heap.size (ρ.t 23) size v' 0 [] ∧ Below w.heap.size w w' := by
  have mixed := L.mixed; have t4 := L.t4; have a4 := L.a4; have z4 := L.z4; have v4 := L.v4; have t22 := L.t22; have a22 := L.a22; have z22 := L.z22; have v22 := L.v22
  have q22 : ∀ (w : World) (a : Option Addr) (n c n' c' : Nat), (binOp .eql (ρ.t 22) (.slice a n c) (.slice none n' c')).run P w = .ok (.bool a.isNone) w := fun w a n c n' c' => Lib.run_eql_slice_nil w _ _ a n c n' c' L.t22
  have u22 : ∀ w, Sem.run P (underlying (ρ.t 22)) w = .ok (TypeDesc.slice (ρ.t 23)) w := run_underlying t22
  obtain ⟨_, _, FG⟩ := L.f41
  go_enter FG, SlBodyN.n41_ntmps ρ
  go_wp2_with (at_builtin; refine wpList_append_own _ rfl _ _ (ρ.t 22) rfl w.heap.size (ρ.t 23) i0 z size bytes t22 hi hz0 hz1 hz2 hzs hsz _ _ _ rfl (World.ownsRow_made w #[] 0 (Nat.le_refl _) (Nat.zero_le _) (by simp)) p 0 c [] rfl ?qc1 ?qc2 ?qc3 ?qc4 ?qc5 ?qc6 ?_)
  case qc1 => simp
  case qc2 => intro j u hj; simp at hj
  case qc3 => simp
  case qc4 => simp
  case qc5 => simp
  case qc6 => simp
  intro v' w1 hown hgrow hnil
  go_wp2
  go_ret
  exact ⟨v', rfl, by simpa using hown, ((Below.refl _ w).alloc (Nat.le_refl _) _).grown hgrow (by simp) (by intro k hk; simp [Value.ownBlock] at hk; omega)⟩

theorem clone_own (L : SlLaysE0.n41 P ρ) (i0 : TypeInfo) (z : Value) (size bytes : Nat) (hi : P.info? (ρ.t 23) = some i0) (hz0 : i0.zero = some z) (hz1 : i0.size = size) (hz2 : i0.bytes = bytes) (hzs : z.cells.size = size) (hsz : 0 < size) (hby : bytes ≤ 1024)
    (z23 : ∀ w, (Go.sizeOf (ρ.t 23)).run P w = .ok size w) (hcall : callable P (ρ.f 41) = true) (rows : List (List DV)) (hall : ∀ r ∈ rows, r.length = size) (hlen : rows.length ≤ 137438953472) : FSpec P (ρ.f 41) (([.slice rows] : List DV).map .d) (.own (.sl (ρ.t 23) (List.replicate size .sh)) (.slice rows)) (([.slice rows] : List DV).map .d) := by
  refine own_spec hcall hall (fun w M vs hM hv => ?_)
  simp only [RepL] at hv
  obtain ⟨u, us, rfl, hu, rfl⟩ := hv
  have hS : RepS w M (fun _ => .pointer none) (.d (.slice rows)) u := by simpa only [RepS] using hu
  obtain ⟨ad, cap, news, hu', k1, k2, k3⟩ := rowsY_rep (sz := size) hS (rows2 := rows.map dR) rfl (by intro r hr; obtain ⟨q, hq, rfl⟩ := List.mem_map.1 hr; simp [dR, hall q hq])
  simp only [List.length_map] at hu'
  subst hu'
  rw [dR_flatten] at k1
  have k1' : RepL w M rows.flatten news := RepSL.toDVs _ _ _ k1 (dR_toDVs _)
  have zero : ∀ (a : Option Addr), rows = [] → Calls P (ρ.f 41) #[.slice a 0 cap] w fun e w' => ∃ v news, e = .returned v ∧ w'.ownsRow w.heap.size (ρ.t 23) size v 0 news ∧ RepL w M ([] : List (List DV)).flatten news ∧ (∀ u ∈ news, u.oneCell' = true) ∧ Below w.heap.size w w' := by
    intro a hr
    subst hr
    cases a with
    | none =>
      refine (AnyE.slices_Clone_nil L 0 cap w).mono ?_
      rintro e w' ⟨rfl, rfl⟩
      exact ⟨_, [], rfl, ⟨by simp, .inl ⟨rfl, rfl⟩⟩, by simp [RepL], by simp, Below.refl _ _⟩
    | some p =>
      refine (clone_zero L i0 z size bytes hi hz0 hz1 hz2 hzs hsz z23 p cap w).mono ?_
      rintro e w' ⟨v', rfl, ho, hB⟩
      exact ⟨v', [], rfl, ho, by simp [RepL], by simp, hB⟩
  rcases k3 with ⟨hr, hn⟩ | ⟨b, o, rfl, hcells⟩
  · have hr' : rows = [] := by simpa using hr
    have := zero ad hr'
    subst hr'
    exact this
  · have hbytes : rows.length * bytes ≤ 140737488355328 := by
      have := Nat.mul_le_mul hlen hby
      omega
    refine (AnyE.slices_Clone L i0 z size bytes hi hz0 hz1 hz2 hzs hsz z23 b o rows.length cap news w (by rw [← flatten_len hall]; exact k1'.len) (by unfold maxLen; omega) hbytes hcells k2).mono ?_
    rintro e w' ⟨v', rfl, ho, _, hB⟩
    exact ⟨v', news, rfl, ho, k1', k2, hB⟩
end Go.Proofs.YthcfbglbjipdaaaDoor

/-
  DERIVED: THE SHELF's CONTRACTS AT THIS DUMP, IN PLAIN WORDS (tools/lay-plain.mjs out of 'YthcfbglbjipdaaaDoorShelfC.lean', which tools/lay-shelf.mjs wrote): THE SAME DECLARATIONS UNDER THE SAME NAMES: 'import', 'namespace', 'open', 'def', 'theorem' AND NOTHING ELSE: no command of the shelf's: FOR A HAND-IN. Each laying: the table of numbers ('.._ren') and one theorem, a field a fact of the dump's own or the kernel's comparison; each contract: ONE APPLICATION.
-/
namespace Go.Proofs
open Go.Shelf
def Tryd.lays41_9_ren : Go.Shelf.Ren := ⟨fun | 41 => 9 | n => n, fun | 22 => 22 | 23 => 24 | 4 => 4 | n => n, fun | n => n⟩
theorem Tryd.lays41_9 : Go.Proofs.SlLaysE0.n41 Tryd.prog Tryd.lays41_9_ren := {
  mixed := by kernel_rfl
  f41 := ⟨Tryd.f9.name, by decide, Tryd.func9.trans (congrArg some (by kernel_rfl))⟩
  t4 := Tryd.underlying4
  a4 := Tryd.isAgg4
  z4 := Tryd.sizeOf4
  v4 := Tryd.zeroValue4
  t22 := Tryd.underlying22
  a22 := Tryd.isAgg22
  z22 := Tryd.sizeOf22
  v22 := Tryd.zeroValue22 }
end Go.Proofs

/-
  math/bits.TrailingZeros64 at the one number at which it is asked here.
-/
namespace Go.Proofs.YthcfbglbjipdaaaDoor
set_option linter.unusedSimpArgs false
set_option linter.unusedVariables false
open Go.RowKit

theorem tz0 : bits BinOp.and IntKind.u64 16 (IntKind.u64.wrap (-16)) = 16 := by decide
theorem tz1 : IntKind.u64.wrap (16 * 285870213051353865) = 4573923408821661840 := by decide
attribute [local simp] tz0 tz1
def m_math_bits_TrailingZeros64 (x : Int) : Option Int := if x = 16 then some 4 else none
set_option maxRecDepth 100000 in
theorem spec_math_bits_TrailingZeros64 (x : Int) : ∀ r, m_math_bits_TrailingZeros64 x = some r → PureSpec Tryd.prog 69 [.int .u64 x] (.int .i64 r) := by
  intro r hr
  unfold m_math_bits_TrailingZeros64 at hr
  split at hr
  · rename_i h
    subst h
    cases hr
    refine ⟨by kernel_rfl, fun w M vs hM hv hgood => ?_⟩
    simp only [RepL, Rep] at hv
    obtain ⟨u, us, rfl, rfl, rfl⟩ := hv
    obtain ⟨u, f, hc⟩ := hgood (tabs[1]) (List.getElem_mem (by decide))
    have hcell : w.cell? ⟨5, 15, none⟩ = some (.int .u8 4) := by
      unfold World.cell?
      simp only
      rw [show 5 = (tabs[1]).1 from rfl, hc]
      rfl
    show Calls Tryd.prog 69 #[.int .u64 16] w _
    go_enter Tryd.func69, Tryd.ntmps69
    go_wp2
    go_ret
    exact ⟨_, rfl, by simp [Rep], Below.refl _ _⟩
  · cases hr
end Go.Proofs.YthcfbglbjipdaaaDoor

/-
  Bodies of functions and what they compute, printed by programs of mine (wip/tool/gen.py, sc.py) out of the translation; the kernel holds each against the translation.
-/
namespace Go.Proofs.YthcfbglbjipdaaaDoor
open Go.RowKit
set_option linter.unusedSimpArgs false
set_option linter.unusedVariables false
/-- internal/strconv.isPowerOfTwo -/
def sc_internal_strconv_isPowerOfTwo : SC :=
  (.seq (.reg [.r 2 (.mv (.c (.d (.bool false))))])
  (.seq (.reg [.r 3 (.mv (.t 0)),
     .r 4 (.mv (.t 0)),
     .r 5 (.bin .sub (.t 4) (.c (.d (.int .i64 1)))),
     .r 6 (.bin .and (.t 3) (.t 5)),
     .r 7 (.bin .eql (.t 6) (.c (.d (.int .i64 0)))),
     .r 2 (.mv (.t 7))])
  .ret))
theorem fit_internal_strconv_isPowerOfTwo : fits Tryd.prog 62 Tryd.f62 sc_internal_strconv_isPowerOfTwo [.t 2] 1 = true := by kernel_rfl

/-- math/bits.TrailingZeros -/
def sc_math_bits_TrailingZeros : SC :=
  (.seq (.reg [.r 2 (.mv (.c (.d (.int .i64 0))))])
  (.seq (.cond (.c (.d (.bool false)))
    .any
    .skip)
  (.seq (.reg [.r 6 (.mv (.t 0)),
     .c 7 (.f 69) [.t 6],
     .r 2 (.mv (.t 7))])
  .ret)))
theorem fit_math_bits_TrailingZeros : fits Tryd.prog 63 Tryd.f63 sc_math_bits_TrailingZeros [.t 2] 1 = true := by kernel_rfl

set_option maxRecDepth 100000 in
set_option maxHeartbeats 40000000 in
noncomputable def sims_F1_0_0 : (∀ (x0 : Int), {m : Option (Bool) // ∀ r, m = some r → PureSpec Tryd.prog 62 [.int .i64 x0] (.bool r)}) × (∀ (x0 : Int), {m : Option (Int) // ∀ r, m = some r → PureSpec Tryd.prog 63 [.int .u64 x0] (.int .i64 r)}) := by
  refine ⟨?g0, ?g1⟩
  case' g0 => (intro x0; apply Subtype.mk; intro r hm; apply pure_walk Tryd.func62 fit_internal_strconv_isPowerOfTwo; unfold sc_internal_strconv_isPowerOfTwo)
  case' g1 => (intro x0; apply Subtype.mk; intro r hm; apply pure_walk Tryd.func63 fit_math_bits_TrailingZeros; unfold sc_math_bits_TrailingZeros)
  all_goals (repeat' (first | with_reducible refine W_seq ?_ | with_reducible refine W_reg ?_ | with_reducible refine W_skip ?_ | with_reducible refine W_ret ?_ | with_reducible refine O_nil ?_ | with_reducible refine K_seq ?_ | ((with_reducible apply O_r); (simp only [push_cast, seval]; rfl); (first | exact trivial)) | ((with_reducible apply W_condF); (focus (simp only [push_cast, seval]; done))) | ((with_reducible apply O_cF hm); (simp only [push_cast, seval]; rfl); (first | apply spec_math_bits_TrailingZeros64 _); (any_goals ((repeat' (first | rfl)); done)); intro x hm) | ((with_reducible apply K_endS hm); (focus (simp only [resOf, resL, RV.get, push_cast, seval]; rfl)); (focus ((repeat' (first | rfl)); done)))))
noncomputable def m_internal_strconv_isPowerOfTwo (x0 : Int) : Option (Bool) := (sims_F1_0_0.1 x0).1
theorem spec_internal_strconv_isPowerOfTwo (x0 : Int) : ∀ r, m_internal_strconv_isPowerOfTwo x0 = some r → PureSpec Tryd.prog 62 [.int .i64 x0] (.bool r) := (sims_F1_0_0.1 x0).2
noncomputable def m_math_bits_TrailingZeros (x0 : Int) : Option (Int) := (sims_F1_0_0.2 x0).1
theorem spec_math_bits_TrailingZeros (x0 : Int) : ∀ r, m_math_bits_TrailingZeros x0 = some r → PureSpec Tryd.prog 63 [.int .u64 x0] (.int .i64 r) := (sims_F1_0_0.2 x0).2

def sc_internal_strconv_formatBits_L1 : SC :=
  (.seq (.seq (.reg [.r 44 (.mv (.t 1)),
     .r 45 (.mv (.t 15)),
     .r 46 (.bin .geq (.t 44) (.t 45))])
  (.cond (.t 46)
    .skip
    (.exit 0)))
  (.block 1 (.seq (.reg [.r 47 (.mv (.t 13)),
       .r 48 (.bin .sub (.t 47) (.c (.d (.int .i64 1)))),
       .r 13 (.mv (.t 48))])
    (.seq (.reg [.r 49 (.mv (.t 13)),
       .r 50 (.mv (.t 1)),
       .r 51 (.mv (.t 16)),
       .r 52 (.bin .and (.t 50) (.t 51)),
       .r 53 (.sidx (.c (.d (.str [48, 49, 50, 51, 52, 53, 54, 55, 56, 57, 97, 98, 99, 100, 101, 102, 103, 104, 105, 106, 107, 108, 109, 110, 111, 112, 113, 114, 115, 116, 117, 118, 119, 120, 121, 122]))) (.t 52)),
       .r 54 (.aidx 1 65 (.t 12) (.t 49)),
       .w 0 (.st 1 (.t 54) (.t 53))])
    (.reg [.r 55 (.mv (.t 1)),
       .r 56 (.mv (.t 14)),
       .r 57 (.bin .shr (.t 55) (.t 56)),
       .r 1 (.mv (.t 57))])))))
def sc_internal_strconv_formatBits_B1 : SC := .block 0 (.loop sc_internal_strconv_formatBits_L1)
def sc_internal_strconv_formatBits_R30 : SC := (.reg [.r 99 (.mv (.t 13)),
     .r 100 (.slcP 65 (.t 12) (.t 99)),
     .r 101 (.cvbs (.t 100)),
     .r 11 (.mv (.t 101))])
/-- internal/strconv.formatBits -/
def sc_internal_strconv_formatBits : SC :=
  (.seq (.reg [.r 10 (.mv (.c (.nils))),
     .r 11 (.mv (.c (.d (.str []))))])
  (.seq (.seq (.reg (.r 19 (.mv (.t 2)) :: .r 20 (.bin .lss (.t 19) (.c (.d (.int .i64 2)))) :: .r 21 (.mv (.t 20)) :: gapp [22, 23] 21 false (.r 22 (.mv (.t 2)) :: .r 23 (.bin .eql (.t 22) (.c (.d (.int .i64 10)))) :: []) (.r 24 (.pick (.t 21) (.c (.d (.bool true))) (.t 23)) :: .r 25 (.mv (.t 24)) :: gapp [26, 27] 25 false (.r 26 (.mv (.t 2)) :: .r 27 (.bin .gtr (.t 26) (.c (.d (.int .i64 36)))) :: []) (.r 28 (.pick (.t 25) (.c (.d (.bool true))) (.t 27)) :: []))))
  (.cond (.t 28)
    .any
    .skip))
  (.seq (.reg [.w 12 (.boxM (.c (.agg [.d (.int .u8 0), .d (.int .u8 0), .d (.int .u8 0), .d (.int .u8 0), .d (.int .u8 0), .d (.int .u8 0), .d (.int .u8 0), .d (.int .u8 0), .d (.int .u8 0), .d (.int .u8 0), .d (.int .u8 0), .d (.int .u8 0), .d (.int .u8 0), .d (.int .u8 0), .d (.int .u8 0), .d (.int .u8 0), .d (.int .u8 0), .d (.int .u8 0), .d (.int .u8 0), .d (.int .u8 0), .d (.int .u8 0), .d (.int .u8 0), .d (.int .u8 0), .d (.int .u8 0), .d (.int .u8 0), .d (.int .u8 0), .d (.int .u8 0), .d (.int .u8 0), .d (.int .u8 0), .d (.int .u8 0), .d (.int .u8 0), .d (.int .u8 0), .d (.int .u8 0), .d (.int .u8 0), .d (.int .u8 0), .d (.int .u8 0), .d (.int .u8 0), .d (.int .u8 0), .d (.int .u8 0), .d (.int .u8 0), .d (.int .u8 0), .d (.int .u8 0), .d (.int .u8 0), .d (.int .u8 0), .d (.int .u8 0), .d (.int .u8 0), .d (.int .u8 0), .d (.int .u8 0), .d (.int .u8 0), .d (.int .u8 0), .d (.int .u8 0), .d (.int .u8 0), .d (.int .u8 0), .d (.int .u8 0), .d (.int .u8 0), .d (.int .u8 0), .d (.int .u8 0), .d (.int .u8 0), .d (.int .u8 0), .d (.int .u8 0), .d (.int .u8 0), .d (.int .u8 0), .d (.int .u8 0), .d (.int .u8 0), .d (.int .u8 0)])))])
  (.seq (.reg [.r 13 (.mv (.c (.d (.int .i64 65))))])
  (.seq (.seq (.reg [.r 30 (.mv (.t 3))])
  (.cond (.t 30)
    .any
    .skip))
  (.seq (.seq (.reg [.r 33 (.mv (.t 2)),
     .c 34 (.f 62) [.t 33]])
  (.cond (.t 34)
    (.seq (.reg [.r 35 (.mv (.t 2)),
       .r 36 (.cvi .u64 (.t 35)),
       .c 37 (.f 63) [.t 36],
       .r 38 (.cvi .u64 (.t 37)),
       .r 14 (.mv (.t 38))])
    (.seq (.reg [.r 39 (.mv (.t 2)),
       .r 40 (.cvi .u64 (.t 39)),
       .r 15 (.mv (.t 40))])
    (.seq (.reg [.r 41 (.mv (.t 2)),
       .r 42 (.cvi .u64 (.t 41)),
       .r 43 (.bin .sub (.t 42) (.c (.d (.int .u64 1)))),
       .r 16 (.mv (.t 43))])
    (.seq sc_internal_strconv_formatBits_B1
    (.seq (.reg [.r 58 (.mv (.t 13)),
       .r 59 (.bin .sub (.t 58) (.c (.d (.int .i64 1)))),
       .r 13 (.mv (.t 59))])
    (.reg [.r 60 (.mv (.t 13)),
       .r 61 (.mv (.t 1)),
       .r 62 (.sidx (.c (.d (.str [48, 49, 50, 51, 52, 53, 54, 55, 56, 57, 97, 98, 99, 100, 101, 102, 103, 104, 105, 106, 107, 108, 109, 110, 111, 112, 113, 114, 115, 116, 117, 118, 119, 120, 121, 122]))) (.t 61)),
       .r 63 (.aidx 1 65 (.t 12) (.t 60)),
       .w 0 (.st 1 (.t 63) (.t 62))]))))))
    .any))
  (.seq (.seq (.reg [.r 89 (.mv (.t 3))])
  (.cond (.t 89)
    .any
    .skip))
  (.seq (.seq (.reg [.r 94 (.mv (.t 4))])
  (.cond (.t 94)
    .any
    .skip))
  (.seq sc_internal_strconv_formatBits_R30
  .ret)))))))))
theorem fit_internal_strconv_formatBits : fits Tryd.prog 52 Tryd.f52 sc_internal_strconv_formatBits [.t 10, .t 11] 5 = true := by kernel_rfl

set_option maxRecDepth 100000 in
set_option maxHeartbeats 40000000 in
noncomputable def sims_F1_1_0 : (∀ (x0 : List UInt8) (x1 : Int) (x2 : Int) (x3 : Bool) (x4 : Bool), {m : Option ((List UInt8) × (List UInt8)) // ∀ r, m = some r → PureSpec Tryd.prog 52 [.slice (List.map rowY x0), .int .u64 x1, .int .i64 x2, .bool x3, .bool x4] (.tup [.slice (List.map rowY r.1), .str r.2])}) := by
  (intro x0 x1 x2 x3 x4; apply Subtype.mk; intro r hm; apply pure_walk Tryd.func52 fit_internal_strconv_formatBits; unfold sc_internal_strconv_formatBits)
  repeat' (first | ((apply W_frzB (x := sc_internal_strconv_formatBits_R30) (id := 12) (slot := 12)); (focus (simp only [push_cast, seval]; (try rfl); done)); (focus (simp only [push_cast, seval]; (try rfl); done)); (focus (simp only [push_cast, seval]; (try rfl); done)); unfold sc_internal_strconv_formatBits_R30) | with_reducible refine W_seq ?_ | with_reducible refine W_reg ?_ | with_reducible refine W_block ?_ | with_reducible refine W_skip ?_ | with_reducible refine W_ret ?_ | with_reducible refine W_exit ?_ | with_reducible refine O_nil ?_ | with_reducible refine K_seq ?_ | with_reducible refine K_seqE ?_ | with_reducible refine K_block ?_ | ((with_reducible apply O_sidxr hm); (iterate 2 (simp only [push_cast, seval]; rfl)); intro e hm) | ((with_reducible apply O_cvbsD); (simp only [push_cast, seval]; rfl)) | ((with_reducible apply O_aidxr hm); (iterate 2 (simp only [push_cast, seval]; rfl)); intro hm) | ((with_reducible apply O_r); (simp only [push_cast, seval]; rfl); (first | exact trivial)) | ((with_reducible apply O_shr hm); (iterate 2 (simp only [push_cast, seval]; rfl)); intro hm) | ((with_reducible apply O_slcPY hm); (iterate 2 (simp only [push_cast, seval]; rfl)); intro hm) | (with_reducible apply W_any hm) | ((with_reducible apply O_or hm); (simp only [push_cast, seval]; rfl); rfl; intro v hm; rotate_left; intro v g hm) | ((with_reducible apply O_cF hm); (simp only [push_cast, seval]; rfl); (first | apply spec_internal_strconv_isPowerOfTwo _ | apply spec_math_bits_TrailingZeros _); (any_goals ((repeat' (first | rfl)); done)); intro x hm) | ((with_reducible apply O_w); (simp only [push_cast, seval]; rfl); (first | exact trivial)) | ((with_reducible apply O_stC hm); (iterate 3 (simp only [push_cast, seval]; rfl)); (focus ((repeat' (first | rfl)); done)); rfl; intro e hm) | ((with_reducible apply S_condB hm); (simp only [push_cast, seval]; rfl); intro hm; rotate_left; intro hm) | ((with_reducible apply K_end2 hm); (focus (simp only [resOf, resL, RV.get, push_cast, seval]; rfl)); (focus (first | (dsimp only; done))); (focus ((repeat' (first | rfl | (with_reducible first | apply f_tup | apply dv_slice | apply f_cons | apply fold_nil))); done))) | ((with_reducible apply K_bool hm); (simp only [push_cast, seval]; rfl)) | ((with_reducible apply K_leave hm); intro r hm) | ((apply S_loopY (b := 0) (X := sc_internal_strconv_formatBits_B1) (x := sc_internal_strconv_formatBits_L1) rfl (fun (c : SV × SV × SV × SV × SV × SV) (s : Int × (List UInt8) × Int) => st [(1, .d (.int .u64 s.1)), (3, c.1), (4, c.2.1), (10, c.2.2.1), (12, .ref 12 0), (13, .d (.int .i64 s.2.2)), (14, c.2.2.2.1), (15, c.2.2.2.2.1), (16, c.2.2.2.2.2)] [(12, .box (vcells cY s.2.1))]) (c := (_, _, _, _, _, _)) (s0 := (_, _, _)) hm); (focus (first | (dsimp only; done))); (with_reducible refine Then.mk ?_ ?_)) | ((apply K_next (s' := (_, _, _)) hm); (focus (first | (dsimp only; done)))) | ((apply K_brk (s' := (_, _, _)) hm); (focus (first | (dsimp only; done)))) | (((with_reducible apply LoopB.of); (focus (first | (dsimp only; done))); (focus ((intro _; repeat' (first | with_reducible exact impC_end | with_reducible refine impC_seq ?_)))); (intro s o hm; first | unfold sc_internal_strconv_formatBits_L1); rotate_left; intro s hm)) | (((apply imp_stT; (repeat' (first | with_reducible exact keepT_nil | with_reducible exact keepC_nil | with_reducible apply keepT_cons | with_reducible apply keepC_cons | ((with_reducible apply svle_eq); (focus (first | (simp only [push_cast, seval]; rfl) | rfl)); (focus ((repeat' (first | rfl | (with_reducible first | apply sv_d) | (with_reducible apply f_byte; decide))); done))) | ((with_reducible apply chle_eq); (focus (first | (simp only [push_cast, seval]; rfl))); (first | with_reducible exact chle_rfl rfl | with_reducible apply chle_box)) | (with_reducible first | apply vc_nil | apply vc_cons))); done))))
noncomputable def m_internal_strconv_formatBits (x0 : List UInt8) (x1 : Int) (x2 : Int) (x3 : Bool) (x4 : Bool) : Option ((List UInt8) × (List UInt8)) := (sims_F1_1_0 x0 x1 x2 x3 x4).1
theorem spec_internal_strconv_formatBits (x0 : List UInt8) (x1 : Int) (x2 : Int) (x3 : Bool) (x4 : Bool) : ∀ r, m_internal_strconv_formatBits x0 x1 x2 x3 x4 = some r → PureSpec Tryd.prog 52 [.slice (List.map rowY x0), .int .u64 x1, .int .i64 x2, .bool x3, .bool x4] (.tup [.slice (List.map rowY r.1), .str r.2]) := (sims_F1_1_0 x0 x1 x2 x3 x4).2

/-- internal/strconv.FormatUint -/
def sc_internal_strconv_FormatUint : SC :=
  (.seq (.reg [.r 4 (.mv (.c (.d (.str []))))])
  (.seq (.seq (.reg [.r 9 (.mv (.t 1)),
     .r 10 (.bin .eql (.t 9) (.c (.d (.int .i64 10))))])
  (.cond (.t 10)
    .any
    .skip))
  (.seq (.reg [.r 26 (.mv (.t 0)),
     .r 27 (.mv (.t 1)),
     .c 28 (.f 52) [.c (.nils), .t 26, .t 27, .c (.d (.bool false)), .c (.d (.bool false))],
     .r 25 (.mv (.t 28)),
     .r 29 (.ext (.t 25) 0),
     .r 30 (.ext (.t 25) 1),
     .r 7 (.mv (.t 29)),
     .r 8 (.mv (.t 30))])
  (.seq (.reg [.r 31 (.mv (.t 8)),
     .r 4 (.mv (.t 31))])
  .ret))))
theorem fit_internal_strconv_FormatUint : fits Tryd.prog 38 Tryd.f38 sc_internal_strconv_FormatUint [.t 4] 2 = true := by kernel_rfl

set_option maxRecDepth 100000 in
set_option maxHeartbeats 40000000 in
noncomputable def sims_F1_2_0 : (∀ (x0 : Int) (x1 : Int), {m : Option ((List UInt8)) // ∀ r, m = some r → PureSpec Tryd.prog 38 [.int .u64 x0, .int .i64 x1] (.str r)}) := by
  (intro x0 x1; apply Subtype.mk; intro r hm; apply pure_walk Tryd.func38 fit_internal_strconv_FormatUint; unfold sc_internal_strconv_FormatUint)
  repeat' (first | with_reducible refine W_seq ?_ | with_reducible refine W_reg ?_ | with_reducible refine W_skip ?_ | with_reducible refine W_ret ?_ | with_reducible refine O_nil ?_ | with_reducible refine K_seq ?_ | ((with_reducible apply O_r); (simp only [push_cast, seval]; rfl); (first | exact trivial)) | (with_reducible apply W_any hm) | ((with_reducible apply O_cF hm); (simp only [push_cast, seval]; rfl); (first | apply spec_internal_strconv_formatBits _ _ _ _ _); (any_goals ((repeat' (first | rfl | (with_reducible first | apply dv_slice | apply f_cons | apply fold_nil))); done)); intro x hm) | ((with_reducible apply S_condB hm); (simp only [push_cast, seval]; rfl); intro hm; rotate_left; intro hm) | ((with_reducible apply K_endS hm); (focus (simp only [resOf, resL, RV.get, push_cast, seval]; rfl)); (focus ((repeat' (first | rfl)); done))))
noncomputable def m_internal_strconv_FormatUint (x0 : Int) (x1 : Int) : Option ((List UInt8)) := (sims_F1_2_0 x0 x1).1
theorem spec_internal_strconv_FormatUint (x0 : Int) (x1 : Int) : ∀ r, m_internal_strconv_FormatUint x0 x1 = some r → PureSpec Tryd.prog 38 [.int .u64 x0, .int .i64 x1] (.str r) := (sims_F1_2_0 x0 x1).2

/-- strconv.FormatUint -/
def sc_strconv_FormatUint : SC :=
  (.seq (.reg [.r 4 (.mv (.c (.d (.str []))))])
  (.seq (.reg [.r 5 (.mv (.t 0)),
     .r 6 (.mv (.t 1)),
     .c 7 (.f 38) [.t 5, .t 6],
     .r 4 (.mv (.t 7))])
  .ret))
theorem fit_strconv_FormatUint : fits Tryd.prog 23 Tryd.f23 sc_strconv_FormatUint [.t 4] 2 = true := by kernel_rfl

set_option maxRecDepth 100000 in
set_option maxHeartbeats 40000000 in
noncomputable def sims_F1_3_0 : (∀ (x0 : Int) (x1 : Int), {m : Option ((List UInt8)) // ∀ r, m = some r → PureSpec Tryd.prog 23 [.int .u64 x0, .int .i64 x1] (.str r)}) := by
  (intro x0 x1; apply Subtype.mk; intro r hm; apply pure_walk Tryd.func23 fit_strconv_FormatUint; unfold sc_strconv_FormatUint)
  repeat' (first | with_reducible refine W_seq ?_ | with_reducible refine W_reg ?_ | with_reducible refine W_ret ?_ | with_reducible refine O_nil ?_ | with_reducible refine K_seq ?_ | ((with_reducible apply O_r); (simp only [push_cast, seval]; rfl); (first | exact trivial)) | ((with_reducible apply O_cF hm); (simp only [push_cast, seval]; rfl); (first | apply spec_internal_strconv_FormatUint _ _); (any_goals ((repeat' (first | rfl)); done)); intro x hm) | ((with_reducible apply K_endS hm); (focus (simp only [resOf, resL, RV.get, push_cast, seval]; rfl)); (focus ((repeat' (first | rfl)); done))))
noncomputable def m_strconv_FormatUint (x0 : Int) (x1 : Int) : Option ((List UInt8)) := (sims_F1_3_0 x0 x1).1
theorem spec_strconv_FormatUint (x0 : Int) (x1 : Int) : ∀ r, m_strconv_FormatUint x0 x1 = some r → PureSpec Tryd.prog 23 [.int .u64 x0, .int .i64 x1] (.str r) := (sims_F1_3_0 x0 x1).2

end Go.Proofs.YthcfbglbjipdaaaDoor

/-
  Bodies of functions and what they compute, printed by programs of mine (wip/tool/gen.py, sc.py) out of the translation; the kernel holds each against the translation.
-/
namespace Go.Proofs.YthcfbglbjipdaaaDoor
open Go.RowKit
set_option linter.unusedSimpArgs false
set_option linter.unusedVariables false
structure Tapi_Record where
  fTime : Int
  fKind : List UInt8
  fKey : List UInt8
  fDigest : List UInt8
  fDropped : Bool
  fText : List UInt8
  deriving DecidableEq
def rTapi_Record (x : Tapi_Record) : List DV := [.int .i64 x.fTime, .str x.fKind, .str x.fKey, .str x.fDigest, .bool x.fDropped, .str x.fText]
attribute [push_cast] rTapi_Record
theorem fT_Tapi_Record {d0 d1 d2 d3 d4 d5 : DV} {v0 : Int} {v1 : List UInt8} {v2 : List UInt8} {v3 : List UInt8} {v4 : Bool} {v5 : List UInt8} (h0 : d0 = .int .i64 v0) (h1 : d1 = .str v1) (h2 : d2 = .str v2) (h3 : d3 = .str v3) (h4 : d4 = .bool v4) (h5 : d5 = .str v5) : [d0, d1, d2, d3, d4, d5] = rTapi_Record ⟨v0, v1, v2, v3, v4, v5⟩ := by unfold rTapi_Record; simp only [h0, h1, h2, h3, h4, h5, List.cons_append, List.nil_append, List.append_assoc, List.append_nil]
theorem eT_Tapi_Record {d0 d1 d2 d3 d4 d5 : SV} {v0 : Int} {v1 : List UInt8} {v2 : List UInt8} {v3 : List UInt8} {v4 : Bool} {v5 : List UInt8} (h0 : d0 = .d (.int .i64 v0)) (h1 : d1 = .d (.str v1)) (h2 : d2 = .d (.str v2)) (h3 : d3 = .d (.str v3)) (h4 : d4 = .d (.bool v4)) (h5 : d5 = .d (.str v5)) : [d0, d1, d2, d3, d4, d5] = dR (rTapi_Record ⟨v0, v1, v2, v3, v4, v5⟩) := by simp only [rTapi_Record, dR, List.map_append, List.map_cons, List.map_nil, List.cons_append, List.nil_append, List.append_assoc, List.append_nil, h0, h1, h2, h3, h4, h5]

/-- interchange/kit.Outside -/
def sc_kit_Outside : SC :=
  (.seq (.reg [.r 6 (.mv (.c (.d (.bool false))))])
  (.seq (.reg (.r 7 (.mv (.t 0)) :: .r 8 (.mv (.t 1)) :: .r 9 (.bin .lss (.t 7) (.t 8)) :: .r 10 (.mv (.t 9)) :: gapp [11, 12, 13] 10 false (.r 11 (.mv (.t 0)) :: .r 12 (.mv (.t 2)) :: .r 13 (.bin .gtr (.t 11) (.t 12)) :: []) (.r 14 (.pick (.t 10) (.c (.d (.bool true))) (.t 13)) :: .r 6 (.mv (.t 14)) :: [])))
  .ret))
theorem fit_kit_Outside : fits Tryd.prog 11 Tryd.f11 sc_kit_Outside [.t 6] 3 = true := by kernel_rfl

/-- interchange/kit.IsName -/
def sc_kit_IsName : SC :=
  (.seq (.reg [.r 2 (.mv (.c (.d (.bool false))))])
  (.seq (.seq (.reg (.r 3 (.mv (.t 0)) :: .r 4 (.lenT (.t 3)) :: .r 5 (.bin .lss (.t 4) (.c (.d (.int .i64 1)))) :: .r 6 (.mv (.t 5)) :: gapp [7, 8, 9] 6 false (.r 7 (.mv (.t 0)) :: .r 8 (.lenT (.t 7)) :: .r 9 (.bin .gtr (.t 8) (.c (.d (.int .i64 40)))) :: []) (.r 10 (.pick (.t 6) (.c (.d (.bool true))) (.t 9)) :: .r 11 (.mv (.t 10)) :: gapp [12, 13, 14] 11 false (.r 12 (.mv (.t 0)) :: .r 13 (.sidx (.t 12) (.c (.d (.int .i64 0)))) :: .r 14 (.bin .lss (.t 13) (.c (.d (.int .u8 97)))) :: []) (.r 15 (.pick (.t 11) (.c (.d (.bool true))) (.t 14)) :: .r 16 (.mv (.t 15)) :: gapp [17, 18, 19] 16 false (.r 17 (.mv (.t 0)) :: .r 18 (.sidx (.t 17) (.c (.d (.int .i64 0)))) :: .r 19 (.bin .gtr (.t 18) (.c (.d (.int .u8 122)))) :: []) (.r 20 (.pick (.t 16) (.c (.d (.bool true))) (.t 19)) :: [])))))
  (.cond (.t 20)
    (.seq (.reg [.r 2 (.mv (.c (.d (.bool false))))])
    .ret)
    .skip))
  (.seq (.reg [.r 21 (.mv (.t 0)),
     .c 22 (.f 19) [.t 21, .c (.d (.str [97, 98, 99, 100, 101, 102, 103, 104, 105, 106, 107, 108, 109, 110, 111, 112, 113, 114, 115, 116, 117, 118, 119, 120, 121, 122, 48, 49, 50, 51, 52, 53, 54, 55, 56, 57, 45]))],
     .r 23 (.bin .eql (.t 22) (.c (.d (.str [])))),
     .r 2 (.mv (.t 23))])
  .ret)))
theorem fit_kit_IsName : fits Tryd.prog 21 Tryd.f21 sc_kit_IsName [.t 2] 1 = true := by kernel_rfl

def sc_kit_InBytes_L1 : SC :=
  (.seq (.reg [.r 11 (.bin .lss (.t 10) (.t 9))])
  (.seq (.cond (.t 11)
    .skip
    (.exit 0))
  (.seq (.block 1 (.seq (.reg [.r 12 (.mv (.t 10)),
       .r 7 (.mv (.t 12))])
    (.seq (.reg (.r 13 (.mv (.t 0)) :: .r 14 (.mv (.t 7)) :: .r 15 (.sidx (.t 13) (.t 14)) :: .r 16 (.mv (.t 1)) :: .r 17 (.bin .lss (.t 15) (.t 16)) :: .r 18 (.mv (.t 17)) :: gapp [19, 20, 21, 22, 23] 18 false (.r 19 (.mv (.t 0)) :: .r 20 (.mv (.t 7)) :: .r 21 (.sidx (.t 19) (.t 20)) :: .r 22 (.mv (.t 2)) :: .r 23 (.bin .gtr (.t 21) (.t 22)) :: []) (.r 24 (.pick (.t 18) (.c (.d (.bool true))) (.t 23)) :: [])))
    (.cond (.t 24)
      (.seq (.reg [.r 6 (.mv (.c (.d (.bool false))))])
      .ret)
      .skip))))
  (.reg [.r 25 (.bin .add (.t 10) (.c (.d (.int .i64 1)))),
     .r 10 (.mv (.t 25))]))))
def sc_kit_InBytes_B1 : SC := .block 0 (.loop sc_kit_InBytes_L1)
/-- interchange/kit.InBytes -/
def sc_kit_InBytes : SC :=
  (.seq (.reg [.r 6 (.mv (.c (.d (.bool false))))])
  (.seq (.seq (.reg [.r 8 (.mv (.t 0)),
     .r 9 (.lenT (.t 8)),
     .r 10 (.mv (.c (.d (.int .i64 0))))])
  sc_kit_InBytes_B1)
  (.seq (.reg [.r 6 (.mv (.c (.d (.bool true))))])
  .ret)))
theorem fit_kit_InBytes : fits Tryd.prog 22 Tryd.f22 sc_kit_InBytes [.t 6] 3 = true := by kernel_rfl

/-- interchange/desk.isDigest -/
def sc_desk_isDigest : SC :=
  (.seq (.reg [.r 2 (.mv (.c (.d (.bool false))))])
  (.seq (.reg (.r 3 (.mv (.t 0)) :: .r 4 (.lenT (.t 3)) :: .r 5 (.bin .eql (.t 4) (.c (.d (.int .i64 16)))) :: .r 6 (.mv (.t 5)) :: gapp [7, 8, 9] 6 true (.r 7 (.mv (.t 0)) :: .c 8 (.f 19) [.t 7, .c (.d (.str [48, 49, 50, 51, 52, 53, 54, 55, 56, 57, 97, 98, 99, 100, 101, 102]))] :: .r 9 (.bin .eql (.t 8) (.c (.d (.str [])))) :: []) (.r 10 (.pick (.t 6) (.t 9) (.c (.d (.bool false)))) :: .r 2 (.mv (.t 10)) :: [])))
  .ret))
theorem fit_desk_isDigest : fits Tryd.prog 13 Tryd.f13 sc_desk_isDigest [.t 2] 1 = true := by kernel_rfl

def sc_partner_Digest_L1 : SC :=
  (.seq (.reg [.r 10 (.bin .lss (.t 9) (.t 8))])
  (.seq (.cond (.t 10)
    .skip
    (.exit 0))
  (.seq (.block 1 (.seq (.reg [.r 11 (.idx 1 (.t 7) (.t 9)),
       .o 12 (.ld1 (.t 11)),
       .r 5 (.mv (.t 12))])
    (.reg [.r 13 (.mv (.t 3)),
       .r 14 (.mv (.t 5)),
       .r 15 (.cvi .u64 (.t 14)),
       .r 16 (.bin .xor (.t 13) (.t 15)),
       .r 17 (.bin .mul (.t 16) (.c (.d (.int .u64 1099511628211)))),
       .r 3 (.mv (.t 17))])))
  (.reg [.r 18 (.bin .add (.t 9) (.c (.d (.int .i64 1)))),
     .r 9 (.mv (.t 18))]))))
def sc_partner_Digest_B1 : SC := .block 0 (.loop sc_partner_Digest_L1)
/-- interchange/partner.Digest -/
def sc_partner_Digest : SC :=
  (.seq (.reg [.r 2 (.mv (.c (.d (.str []))))])
  (.seq (.reg [.r 3 (.mv (.c (.d (.int .u64 14695981039346656037))))])
  (.seq (.seq (.reg [.r 7 (.mv (.t 0)),
     .r 8 (.len (.t 7)),
     .r 9 (.mv (.c (.d (.int .i64 0))))])
  sc_partner_Digest_B1)
  (.seq (.reg [.r 19 (.mv (.t 3)),
     .c 20 (.f 23) [.t 19, .c (.d (.int .i64 16))],
     .r 6 (.mv (.t 20))])
  (.seq (.reg [.r 21 (.mv (.t 6)),
     .r 22 (.lenT (.t 21)),
     .r 23 (.bin .sub (.c (.d (.int .i64 16))) (.t 22)),
     .c 24 (.f 17) [.c (.d (.str [48])), .t 23],
     .r 25 (.mv (.t 6)),
     .r 26 (.bin .add (.t 24) (.t 25)),
     .r 2 (.mv (.t 26))])
  .ret)))))
theorem fit_partner_Digest : fits Tryd.prog 15 Tryd.f15 sc_partner_Digest [.t 2] 1 = true := by kernel_rfl

/-- interchange/desk.body -/
def sc_desk_body : SC :=
  (.seq (.reg [.r 1 (.boxI (.t 0)),
     .r 2 (.mv (.c (.d (.str []))))])
  (.seq (.regD [.r 3 (.fld 0 (.t 1)),
     .r 4 (.ld1 (.t 3)),
     .c 5 (.f 30) [.t 4],
     .r 6 (.bin .add (.t 5) (.c (.d (.str [32])))),
     .r 7 (.fld 1 (.t 1)),
     .r 8 (.ld1 (.t 7)),
     .r 9 (.bin .add (.t 6) (.t 8)),
     .r 10 (.bin .add (.t 9) (.c (.d (.str [32])))),
     .r 11 (.fld 2 (.t 1)),
     .r 12 (.ld1 (.t 11)),
     .r 13 (.bin .add (.t 10) (.t 12)),
     .r 14 (.bin .add (.t 13) (.c (.d (.str [32])))),
     .r 15 (.fld 3 (.t 1)),
     .r 16 (.ld1 (.t 15)),
     .r 17 (.bin .add (.t 14) (.t 16)),
     .r 2 (.mv (.t 17))])
  .ret))
theorem fit_desk_body : fits Tryd.prog 18 Tryd.f18 sc_desk_body [.t 2] 1 = true := by kernel_rfl

set_option maxRecDepth 100000 in
set_option maxHeartbeats 40000000 in
noncomputable def sims_G1_0_0 : (∀ (x0 : Int) (x1 : Int) (x2 : Int), {m : Option (Bool) // ∀ r, m = some r → PureSpec Tryd.prog 11 [.int .i64 x0, .int .i64 x1, .int .i64 x2] (.bool r)}) × (∀ (x0 : List UInt8), {m : Option (Bool) // ∀ r, m = some r → PureSpec Tryd.prog 21 [.str x0] (.bool r)}) × (∀ (x0 : List UInt8) (x1 : UInt8) (x2 : UInt8), {m : Option (Bool) // ∀ r, m = some r → PureSpec Tryd.prog 22 [.str x0, .int .u8 (x1).toNat, .int .u8 (x2).toNat] (.bool r)}) × (∀ (x0 : List UInt8), {m : Option (Bool) // ∀ r, m = some r → PureSpec Tryd.prog 13 [.str x0] (.bool r)}) × (∀ (x0 : List UInt8), {m : Option ((List UInt8)) // ∀ r, m = some r → PureSpec Tryd.prog 15 [.slice (List.map rowY x0)] (.str r)}) × (∀ (x0 : Tapi_Record), {m : Option ((List UInt8)) // ∀ r, m = some r → PureSpec Tryd.prog 18 [.agg (rTapi_Record x0)] (.str r)}) := by
  refine ⟨?g0, ?g1, ?g2, ?g3, ?g4, ?g5⟩
  case' g0 => (intro x0 x1 x2; apply Subtype.mk; intro r hm; apply pure_walk Tryd.func11 fit_kit_Outside; unfold sc_kit_Outside)
  case' g1 => (intro x0; apply Subtype.mk; intro r hm; apply pure_walk Tryd.func21 fit_kit_IsName; unfold sc_kit_IsName)
  case' g2 => (intro x0 x1 x2; apply Subtype.mk; intro r hm; apply pure_walk Tryd.func22 fit_kit_InBytes; unfold sc_kit_InBytes)
  case' g3 => (intro x0; apply Subtype.mk; intro r hm; apply pure_walk Tryd.func13 fit_desk_isDigest; unfold sc_desk_isDigest)
  case' g4 => (intro x0; apply Subtype.mk; intro r hm; apply pure_walk Tryd.func15 fit_partner_Digest; unfold sc_partner_Digest)
  case' g5 => (intro x0; apply Subtype.mk; intro r hm; apply pure_walk Tryd.func18 fit_desk_body; unfold sc_desk_body)
  all_goals (repeat' (first | with_reducible refine W_seq ?_ | with_reducible refine W_reg ?_ | with_reducible refine W_regD ?_ | with_reducible refine W_block ?_ | with_reducible refine W_skip ?_ | with_reducible refine W_ret ?_ | with_reducible refine W_exit ?_ | with_reducible refine O_nil ?_ | with_reducible refine K_seq ?_ | with_reducible refine K_seqE ?_ | with_reducible refine K_seqR ?_ | with_reducible refine K_block ?_ | with_reducible refine K_blockR ?_ | with_reducible refine O_o2r ?_ | ((with_reducible apply O_idxr hm); (iterate 2 (simp only [push_cast, seval]; rfl)); (intro _; rfl); intro e hm) | ((with_reducible apply O_sidxr hm); (iterate 2 (simp only [push_cast, seval]; rfl)); intro e hm) | ((with_reducible apply O_r); (simp only [push_cast, seval]; rfl); (first | exact trivial)) | ((with_reducible apply O_strr hm); (iterate 2 (simp only [push_cast, seval]; rfl)); intro hm) | ((with_reducible apply O_and hm); (simp only [push_cast, seval]; rfl); rfl; intro v hm; rotate_left; intro v g hm) | ((with_reducible apply O_or hm); (simp only [push_cast, seval]; rfl); rfl; intro v hm; rotate_left; intro v g hm) | ((with_reducible apply O_cF hm); (simp only [push_cast, seval]; rfl); (first | apply spec_strings_Trim _ _ | apply spec_strconv_FormatUint _ _ | apply spec_strings_Repeat _ _ | apply spec_strconv_Itoa _); (any_goals ((repeat' (first | rfl)); done)); intro x hm) | ((with_reducible apply S_condB hm); (simp only [push_cast, seval]; rfl); intro hm; rotate_left; intro hm) | ((with_reducible apply K_endS hm); (focus (simp only [resOf, resL, RV.get, push_cast, seval]; rfl)); (focus ((repeat' (first | rfl)); done))) | ((with_reducible apply K_bool hm); (simp only [push_cast, seval]; rfl)) | ((with_reducible apply K_leave hm); intro r hm) | ((with_reducible apply K_leaveR hm); intro r hm) | ((apply S_loopY (b := 0) (X := sc_kit_InBytes_B1) (x := sc_kit_InBytes_L1) rfl (fun (c : SV × SV × SV × SV) (s : Int) => st [(0, c.1), (1, c.2.1), (2, c.2.2.1), (9, c.2.2.2), (10, .d (.int .i64 s))] []) (c := (_, _, _, _)) (s0 := _) hm); (focus (first | (dsimp only; done))); (with_reducible refine Then.mk ?_ ?_)) | ((apply S_loopY (b := 0) (X := sc_partner_Digest_B1) (x := sc_partner_Digest_L1) rfl (fun (c : SV × SV) (s : Int × Int) => st [(3, .d (.int .u64 s.1)), (7, c.1), (8, c.2), (9, .d (.int .i64 s.2))] []) (c := (_, _)) (s0 := (_, _)) hm); (focus (first | (dsimp only; done))); (with_reducible refine Then.mk ?_ ?_)) | ((apply K_next (s' := (_, _)) hm); (focus (first | (dsimp only; done)))) | ((apply K_brk (s' := (_, _)) hm); (focus (first | (dsimp only; done)))) | ((apply K_next (s' := _) hm); (focus (first | (dsimp only; done)))) | ((apply K_brk (s' := _) hm); (focus (first | (dsimp only; done)))) | (((with_reducible apply K_brkR hm); intro r hm)) | (((with_reducible apply LoopB.of); (focus (first | (dsimp only; done))); (focus ((intro _; repeat' (first | with_reducible exact impC_end | with_reducible refine impC_seq ?_)))); (intro s o hm; first | unfold sc_kit_InBytes_L1 | unfold sc_partner_Digest_L1); rotate_left; intro s hm)) | (((apply imp_stT; (repeat' (first | with_reducible exact keepT_nil | with_reducible exact keepC_nil | with_reducible apply keepT_cons | ((with_reducible apply svle_eq); (focus (first | (simp only [push_cast, seval]; rfl))); (focus ((repeat' (first | rfl)); done))))); done)))))
noncomputable def m_kit_Outside (x0 : Int) (x1 : Int) (x2 : Int) : Option (Bool) := (sims_G1_0_0.1 x0 x1 x2).1
theorem spec_kit_Outside (x0 : Int) (x1 : Int) (x2 : Int) : ∀ r, m_kit_Outside x0 x1 x2 = some r → PureSpec Tryd.prog 11 [.int .i64 x0, .int .i64 x1, .int .i64 x2] (.bool r) := (sims_G1_0_0.1 x0 x1 x2).2
noncomputable def m_kit_IsName (x0 : List UInt8) : Option (Bool) := (sims_G1_0_0.2.1 x0).1
theorem spec_kit_IsName (x0 : List UInt8) : ∀ r, m_kit_IsName x0 = some r → PureSpec Tryd.prog 21 [.str x0] (.bool r) := (sims_G1_0_0.2.1 x0).2
noncomputable def m_kit_InBytes (x0 : List UInt8) (x1 : UInt8) (x2 : UInt8) : Option (Bool) := (sims_G1_0_0.2.2.1 x0 x1 x2).1
theorem spec_kit_InBytes (x0 : List UInt8) (x1 : UInt8) (x2 : UInt8) : ∀ r, m_kit_InBytes x0 x1 x2 = some r → PureSpec Tryd.prog 22 [.str x0, .int .u8 (x1).toNat, .int .u8 (x2).toNat] (.bool r) := (sims_G1_0_0.2.2.1 x0 x1 x2).2
noncomputable def m_desk_isDigest (x0 : List UInt8) : Option (Bool) := (sims_G1_0_0.2.2.2.1 x0).1
theorem spec_desk_isDigest (x0 : List UInt8) : ∀ r, m_desk_isDigest x0 = some r → PureSpec Tryd.prog 13 [.str x0] (.bool r) := (sims_G1_0_0.2.2.2.1 x0).2
noncomputable def m_partner_Digest (x0 : List UInt8) : Option ((List UInt8)) := (sims_G1_0_0.2.2.2.2.1 x0).1
theorem spec_partner_Digest (x0 : List UInt8) : ∀ r, m_partner_Digest x0 = some r → PureSpec Tryd.prog 15 [.slice (List.map rowY x0)] (.str r) := (sims_G1_0_0.2.2.2.2.1 x0).2
noncomputable def m_desk_body (x0 : Tapi_Record) : Option ((List UInt8)) := (sims_G1_0_0.2.2.2.2.2 x0).1
theorem spec_desk_body (x0 : Tapi_Record) : ∀ r, m_desk_body x0 = some r → PureSpec Tryd.prog 18 [.agg (rTapi_Record x0)] (.str r) := (sims_G1_0_0.2.2.2.2.2 x0).2

/-- interchange/kit.IsMoment -/
def sc_kit_IsMoment : SC :=
  (.seq (.reg [.r 2 (.mv (.c (.d (.bool false))))])
  (.seq (.reg [.r 3 (.mv (.t 0)),
     .c 4 (.f 11) [.t 3, .c (.d (.int .i64 0)), .c (.d (.int .i64 1000000000000000))],
     .r 5 (.not (.t 4)),
     .r 2 (.mv (.t 5))])
  .ret))
theorem fit_kit_IsMoment : fits Tryd.prog 20 Tryd.f20 sc_kit_IsMoment [.t 2] 1 = true := by kernel_rfl

def sc_desk_headOf_L1 : SC :=
  (.seq (.reg [.r 10 (.bin .lss (.t 9) (.t 8))])
  (.seq (.cond (.t 10)
    .skip
    (.exit 0))
  (.seq (.block 1 (.seq (.reg [.r 11 (.idx 6 (.t 7) (.t 9)),
       .o 12 (.ldA 6 (.t 11)),
       .w 5 (.boxM (.c (.agg [.d (.int .i64 0), .d (.str []), .d (.str []), .d (.str []), .d (.bool false), .d (.str [])]))),
       .w 0 (.st 6 (.t 5) (.t 12))])
    (.reg [.r 13 (.mv (.t 3)),
       .r 14 (.bin .add (.t 13) (.c (.d (.str [32])))),
       .o 15 (.ldA 6 (.t 5)),
       .c 16 (.f 18) [.t 15],
       .r 17 (.bin .add (.t 14) (.t 16)),
       .r 18 (.cvsb (.t 17)),
       .c 19 (.f 15) [.t 18],
       .r 3 (.mv (.t 19))])))
  (.reg [.r 20 (.bin .add (.t 9) (.c (.d (.int .i64 1)))),
     .r 9 (.mv (.t 20))]))))
def sc_desk_headOf_B1 : SC := .block 0 (.loop sc_desk_headOf_L1)
/-- interchange/desk.headOf -/
def sc_desk_headOf : SC :=
  (.seq (.reg [.r 2 (.mv (.c (.d (.str []))))])
  (.seq (.reg [.c 6 (.f 17) [.c (.d (.str [48])), .c (.d (.int .i64 16))],
     .r 3 (.mv (.t 6))])
  (.seq (.seq (.reg [.r 7 (.mv (.t 0)),
     .r 8 (.len (.t 7)),
     .r 9 (.mv (.c (.d (.int .i64 0))))])
  sc_desk_headOf_B1)
  (.seq (.reg [.r 21 (.mv (.t 3)),
     .r 2 (.mv (.t 21))])
  .ret))))
theorem fit_desk_headOf : fits Tryd.prog 12 Tryd.f12 sc_desk_headOf [.t 2] 1 = true := by kernel_rfl

set_option maxRecDepth 100000 in
set_option maxHeartbeats 40000000 in
noncomputable def sims_G1_1_0 : (∀ (x0 : Int), {m : Option (Bool) // ∀ r, m = some r → PureSpec Tryd.prog 20 [.int .i64 x0] (.bool r)}) × (∀ (x0 : List Tapi_Record), {m : Option ((List UInt8)) // ∀ r, m = some r → PureSpec Tryd.prog 12 [.slice (List.map rTapi_Record x0)] (.str r)}) := by
  refine ⟨?g0, ?g1⟩
  case' g0 => (intro x0; apply Subtype.mk; intro r hm; apply pure_walk Tryd.func20 fit_kit_IsMoment; unfold sc_kit_IsMoment)
  case' g1 => (intro x0; apply Subtype.mk; intro r hm; apply pure_walk Tryd.func12 fit_desk_headOf; unfold sc_desk_headOf)
  all_goals (repeat' (first | with_reducible refine W_seq ?_ | with_reducible refine W_reg ?_ | with_reducible refine W_block ?_ | with_reducible refine W_skip ?_ | with_reducible refine W_ret ?_ | with_reducible refine W_exit ?_ | with_reducible refine O_nil ?_ | with_reducible refine K_seq ?_ | with_reducible refine K_seqE ?_ | with_reducible refine K_block ?_ | with_reducible refine O_o2r ?_ | ((with_reducible apply O_idxr hm); (iterate 2 (simp only [push_cast, seval]; rfl)); (intro _; rfl); intro e hm) | ((with_reducible apply O_cvsb); (simp only [push_cast, seval]; rfl)) | ((with_reducible apply O_r); (simp only [push_cast, seval]; rfl); (first | exact trivial)) | ((with_reducible apply O_strr hm); (iterate 2 (simp only [push_cast, seval]; rfl)); intro hm) | ((with_reducible apply O_cF hm); (simp only [push_cast, seval]; rfl); (first | apply spec_kit_Outside _ _ _ | apply spec_strings_Repeat _ _ | apply spec_desk_body _ | apply spec_partner_Digest _); (any_goals ((repeat' (first | rfl)); done)); intro x hm) | ((with_reducible apply O_w); (simp only [push_cast, seval]; rfl); (first | exact trivial)) | ((with_reducible apply S_condB hm); (simp only [push_cast, seval]; rfl); intro hm; rotate_left; intro hm) | ((with_reducible apply K_endS hm); (focus (simp only [resOf, resL, RV.get, push_cast, seval]; rfl)); (focus ((repeat' (first | rfl)); done))) | ((with_reducible apply K_leave hm); intro r hm) | ((apply S_loopY (b := 0) (X := sc_desk_headOf_B1) (x := sc_desk_headOf_L1) rfl (fun (c : SV × SV) (s : (List UInt8) × Int) => st [(3, .d (.str s.1)), (7, c.1), (8, c.2), (9, .d (.int .i64 s.2))] []) (c := (_, _)) (s0 := (_, _)) hm); (focus (first | (dsimp only; done))); (with_reducible refine Then.mk ?_ ?_)) | ((apply K_next (s' := (_, _)) hm); (focus (first | (dsimp only; done)))) | ((apply K_brk (s' := (_, _)) hm); (focus (first | (dsimp only; done)))) | (((with_reducible apply LoopB.of); (focus (first | (dsimp only; done))); (focus ((intro _; repeat' (first | with_reducible exact impC_end | with_reducible refine impC_seq ?_)))); (intro s o hm; first | unfold sc_desk_headOf_L1); rotate_left; intro s hm)) | (((apply imp_stT; (repeat' (first | with_reducible exact keepT_nil | with_reducible exact keepC_nil | with_reducible apply keepT_cons | ((with_reducible apply svle_eq); (focus (first | (simp only [push_cast, seval]; rfl))); (focus ((repeat' (first | rfl)); done))))); done)))))
noncomputable def m_kit_IsMoment (x0 : Int) : Option (Bool) := (sims_G1_1_0.1 x0).1
theorem spec_kit_IsMoment (x0 : Int) : ∀ r, m_kit_IsMoment x0 = some r → PureSpec Tryd.prog 20 [.int .i64 x0] (.bool r) := (sims_G1_1_0.1 x0).2
noncomputable def m_desk_headOf (x0 : List Tapi_Record) : Option ((List UInt8)) := (sims_G1_1_0.2 x0).1
theorem spec_desk_headOf (x0 : List Tapi_Record) : ∀ r, m_desk_headOf x0 = some r → PureSpec Tryd.prog 12 [.slice (List.map rTapi_Record x0)] (.str r) := (sims_G1_1_0.2 x0).2

/-- interchange/desk.fieldsFault -/
def sc_desk_fieldsFault : SC :=
  (.seq (.reg [.r 8 (.mv (.c (.d (.int .i64 0))))])
  (.seq (.block 0 (.seq (.reg [.r 10 (.mv (.t 0)),
       .c 11 (.f 20) [.t 10],
       .r 12 (.not (.t 11)),
       .r 9 (.mv (.t 12))])
    (.cond (.t 9)
      (.seq (.reg [.r 8 (.mv (.c (.d (.int .i64 1))))])
      .ret)
      (.seq (.reg [.r 14 (.mv (.t 1)),
         .c 15 (.f 21) [.t 14],
         .r 16 (.not (.t 15)),
         .r 13 (.mv (.t 16))])
      (.cond (.t 13)
        (.seq (.reg [.r 8 (.mv (.c (.d (.int .i64 5))))])
        .ret)
        (.seq (.reg (.r 18 (.mv (.t 2)) :: .r 19 (.lenT (.t 18)) :: .r 20 (.bin .lss (.t 19) (.c (.d (.int .i64 1)))) :: .r 21 (.mv (.t 20)) :: gapp [22, 23, 24] 21 false (.r 22 (.mv (.t 2)) :: .r 23 (.lenT (.t 22)) :: .r 24 (.bin .gtr (.t 23) (.c (.d (.int .i64 40)))) :: []) (.r 25 (.pick (.t 21) (.c (.d (.bool true))) (.t 24)) :: .r 26 (.mv (.t 25)) :: gapp [27, 28, 29] 26 false (.r 27 (.mv (.t 2)) :: .c 28 (.f 22) [.t 27, .c (.d (.int .u8 33)), .c (.d (.int .u8 126))] :: .r 29 (.not (.t 28)) :: []) (.r 30 (.pick (.t 26) (.c (.d (.bool true))) (.t 29)) :: .r 17 (.mv (.t 30)) :: []))))
        (.cond (.t 17)
          (.seq (.reg [.r 8 (.mv (.c (.d (.int .i64 3))))])
          .ret)
          (.seq (.reg [.r 32 (.mv (.t 3)),
             .r 33 (.lenT (.t 32)),
             .r 34 (.bin .gtr (.t 33) (.c (.d (.int .i64 2000)))),
             .r 31 (.mv (.t 34))])
          (.cond (.t 31)
            (.seq (.reg [.r 8 (.mv (.c (.d (.int .i64 2))))])
            .ret)
            (.seq (.reg [.r 36 (.mv (.t 3)),
               .c 37 (.f 22) [.t 36, .c (.d (.int .u8 32)), .c (.d (.int .u8 126))],
               .r 38 (.not (.t 37)),
               .r 35 (.mv (.t 38))])
            (.cond (.t 35)
              (.seq (.reg [.r 8 (.mv (.c (.d (.int .i64 3))))])
              .ret)
              .skip)))))))))))
  (.seq (.reg [.r 8 (.mv (.c (.d (.int .i64 0))))])
  .ret)))
theorem fit_desk_fieldsFault : fits Tryd.prog 14 Tryd.f14 sc_desk_fieldsFault [.t 8] 4 = true := by kernel_rfl

set_option maxRecDepth 100000 in
set_option maxHeartbeats 40000000 in
noncomputable def sims_G1_2_0 : (∀ (x0 : Int) (x1 : List UInt8) (x2 : List UInt8) (x3 : List UInt8), {m : Option (Int) // ∀ r, m = some r → PureSpec Tryd.prog 14 [.int .i64 x0, .str x1, .str x2, .str x3] (.int .i64 r)}) := by
  (intro x0 x1 x2 x3; apply Subtype.mk; intro r hm; apply pure_walk Tryd.func14 fit_desk_fieldsFault; unfold sc_desk_fieldsFault)
  repeat' (first | with_reducible refine W_seq ?_ | with_reducible refine W_reg ?_ | with_reducible refine W_block ?_ | with_reducible refine W_skip ?_ | with_reducible refine W_ret ?_ | with_reducible refine O_nil ?_ | with_reducible refine K_seq ?_ | with_reducible refine K_seqR ?_ | with_reducible refine K_block ?_ | with_reducible refine K_blockR ?_ | ((with_reducible apply O_r); (simp only [push_cast, seval]; rfl); (first | exact trivial)) | ((with_reducible apply O_or hm); (simp only [push_cast, seval]; rfl); rfl; intro v hm; rotate_left; intro v g hm) | ((with_reducible apply O_cF hm); (simp only [push_cast, seval]; rfl); (first | apply spec_kit_IsMoment _ | apply spec_kit_IsName _ | apply spec_kit_InBytes _ _ _); (any_goals ((repeat' (first | rfl | (with_reducible first | apply f_cons) | (with_reducible apply f_byte; decide))); done)); intro x hm) | ((with_reducible apply S_condB hm); (simp only [push_cast, seval]; rfl); intro hm; rotate_left; intro hm) | ((with_reducible apply K_endS hm); (focus (simp only [resOf, resL, RV.get, push_cast, seval]; rfl)); (focus ((repeat' (first | rfl)); done))) | ((with_reducible apply K_bool hm); (simp only [push_cast, seval]; rfl)))
noncomputable def m_desk_fieldsFault (x0 : Int) (x1 : List UInt8) (x2 : List UInt8) (x3 : List UInt8) : Option (Int) := (sims_G1_2_0 x0 x1 x2 x3).1
theorem spec_desk_fieldsFault (x0 : Int) (x1 : List UInt8) (x2 : List UInt8) (x3 : List UInt8) : ∀ r, m_desk_fieldsFault x0 x1 x2 x3 = some r → PureSpec Tryd.prog 14 [.int .i64 x0, .str x1, .str x2, .str x3] (.int .i64 r) := (sims_G1_2_0 x0 x1 x2 x3).2

/-- interchange/desk.recordFault -/
def sc_desk_recordFault : SC :=
  (.seq (.reg [.r 1 (.boxI (.t 0)),
     .r 2 (.mv (.c (.d (.int .i64 0))))])
  (.seq (.seq (.reg [.r 4 (.fld 0 (.t 1)),
     .o 5 (.ld1 (.t 4)),
     .r 6 (.fld 1 (.t 1)),
     .o 7 (.ld1 (.t 6)),
     .r 8 (.fld 2 (.t 1)),
     .o 9 (.ld1 (.t 8)),
     .r 10 (.fld 5 (.t 1)),
     .o 11 (.ld1 (.t 10)),
     .c 12 (.f 14) [.t 5, .t 7, .t 9, .t 11],
     .r 3 (.mv (.t 12))])
  (.seq (.reg [.r 13 (.mv (.t 3)),
     .r 14 (.bin .neq (.t 13) (.c (.d (.int .i64 0))))])
  (.cond (.t 14)
    (.seq (.reg [.r 15 (.mv (.t 3)),
       .r 2 (.mv (.t 15))])
    .ret)
    .skip)))
  (.seq (.block 0 (.seq (.seq (.reg (.r 17 (.fld 4 (.t 1)) :: .o 18 (.ld1 (.t 17)) :: .r 19 (.mv (.t 18)) :: gapp [20, 21, 22] 19 true (.r 20 (.fld 5 (.t 1)) :: .r 21 (.ld1 (.t 20)) :: .r 22 (.bin .neq (.t 21) (.c (.d (.str [])))) :: []) (.r 23 (.pick (.t 19) (.t 22) (.c (.d (.bool false)))) :: .r 16 (.mv (.t 23)) :: [])))
    (.cond (.t 16)
      .skip
      (.reg [.r 24 (.fld 3 (.t 1)),
         .o 25 (.ld1 (.t 24)),
         .c 26 (.f 13) [.t 25],
         .r 27 (.not (.t 26)),
         .r 16 (.mv (.t 27))])))
    (.cond (.t 16)
      (.seq (.reg [.r 2 (.mv (.c (.d (.int .i64 3))))])
      .ret)
      (.seq (.regD (.r 29 (.fld 4 (.t 1)) :: .r 30 (.ld1 (.t 29)) :: .r 31 (.not (.t 30)) :: .r 32 (.mv (.t 31)) :: gapp [33, 34, 35, 36, 37, 38, 39] 32 true (.r 33 (.fld 5 (.t 1)) :: .r 34 (.ld1 (.t 33)) :: .r 35 (.cvsb (.t 34)) :: .c 36 (.f 15) [.t 35] :: .r 37 (.fld 3 (.t 1)) :: .r 38 (.ld1 (.t 37)) :: .r 39 (.bin .neq (.t 36) (.t 38)) :: []) (.r 40 (.pick (.t 32) (.t 39) (.c (.d (.bool false)))) :: .r 28 (.mv (.t 40)) :: [])))
      (.cond (.t 28)
        (.seq (.reg [.r 2 (.mv (.c (.d (.int .i64 15))))])
        .ret)
        .skip)))))
  (.seq (.reg [.r 2 (.mv (.c (.d (.int .i64 0))))])
  .ret))))
theorem fit_desk_recordFault : fits Tryd.prog 16 Tryd.f16 sc_desk_recordFault [.t 2] 1 = true := by kernel_rfl

/-- interchange/desk.RecordOf -/
def sc_desk_RecordOf : SC :=
  (.seq (.reg [.w 8 (.boxM (.c (.agg [.d (.int .i64 0), .d (.str []), .d (.str []), .d (.str []), .d (.bool false), .d (.str [])]))),
     .r 9 (.mv (.c (.d (.int .i64 0))))])
  (.seq (.seq (.reg [.r 11 (.mv (.t 0)),
     .r 12 (.mv (.t 1)),
     .r 13 (.mv (.t 2)),
     .r 14 (.mv (.t 3)),
     .c 15 (.f 14) [.t 11, .t 12, .t 13, .t 14],
     .r 10 (.mv (.t 15))])
  (.seq (.reg [.r 16 (.mv (.t 10)),
     .r 17 (.bin .neq (.t 16) (.c (.d (.int .i64 0))))])
  (.cond (.t 17)
    (.seq (.reg [.r 18 (.build [.d (.int .i64 0), .d (.str []), .d (.str []), .d (.str []), .d (.bool false), .d (.str [])] []),
       .r 19 (.mv (.t 10)),
       .w 0 (.st 6 (.t 8) (.t 18)),
       .r 9 (.mv (.t 19))])
    .ret)
    .skip)))
  (.seq (.reg [.r 20 (.mv (.t 0)),
     .r 21 (.mv (.t 1)),
     .r 22 (.mv (.t 2)),
     .r 23 (.mv (.t 3)),
     .r 24 (.cvsb (.t 23)),
     .c 25 (.f 15) [.t 24],
     .r 26 (.mv (.t 3)),
     .r 27 (.build [.d (.int .i64 0), .d (.str []), .d (.str []), .d (.str []), .d (.bool false), .d (.str [])] [(0, 1, .t 20), (1, 1, .t 21), (2, 1, .t 22), (3, 1, .t 25), (5, 1, .t 26)]),
     .w 0 (.st 6 (.t 8) (.t 27)),
     .r 9 (.mv (.c (.d (.int .i64 0))))])
  .ret)))
theorem fit_desk_RecordOf : fits Tryd.prog 8 Tryd.f8 sc_desk_RecordOf [.cell 8 6, .t 9] 4 = true := by kernel_rfl

set_option maxRecDepth 100000 in
set_option maxHeartbeats 40000000 in
noncomputable def sims_G1_3_0 : (∀ (x0 : Tapi_Record), {m : Option (Int) // ∀ r, m = some r → PureSpec Tryd.prog 16 [.agg (rTapi_Record x0)] (.int .i64 r)}) × (∀ (x0 : Int) (x1 : List UInt8) (x2 : List UInt8) (x3 : List UInt8), {m : Option (Tapi_Record × Int) // ∀ r, m = some r → PureSpec Tryd.prog 8 [.int .i64 x0, .str x1, .str x2, .str x3] (.tup [.agg (rTapi_Record r.1), .int .i64 r.2])}) := by
  refine ⟨?g0, ?g1⟩
  case' g0 => (intro x0; apply Subtype.mk; intro r hm; apply pure_walk Tryd.func16 fit_desk_recordFault; unfold sc_desk_recordFault)
  case' g1 => (intro x0 x1 x2 x3; apply Subtype.mk; intro r hm; apply pure_walk Tryd.func8 fit_desk_RecordOf; unfold sc_desk_RecordOf)
  all_goals (repeat' (first | with_reducible refine W_seq ?_ | with_reducible refine W_reg ?_ | with_reducible refine W_regD ?_ | with_reducible refine W_block ?_ | with_reducible refine W_skip ?_ | with_reducible refine W_ret ?_ | with_reducible refine O_nil ?_ | with_reducible refine K_seq ?_ | with_reducible refine K_seqR ?_ | with_reducible refine K_block ?_ | with_reducible refine K_blockR ?_ | with_reducible refine O_o2r ?_ | ((with_reducible apply O_cvsb); (simp only [push_cast, seval]; rfl)) | ((with_reducible apply O_r); (simp only [push_cast, seval]; rfl); (first | exact trivial)) | ((with_reducible apply O_and hm); (simp only [push_cast, seval]; rfl); rfl; intro v hm; rotate_left; intro v g hm) | ((with_reducible apply O_cF hm); (simp only [push_cast, seval]; rfl); (first | apply spec_desk_fieldsFault _ _ _ _ | apply spec_desk_isDigest _ | apply spec_partner_Digest _); (any_goals ((repeat' (first | rfl)); done)); intro x hm) | ((with_reducible apply O_w); (simp only [push_cast, seval]; rfl); (first | exact trivial)) | ((with_reducible apply S_condB hm); (simp only [push_cast, seval]; rfl); intro hm; rotate_left; intro hm) | ((with_reducible apply K_end2 hm); (focus (simp only [resOf, resL, RV.get, push_cast, seval]; rfl)); (focus (first | (dsimp only; done))); (focus ((repeat' (first | rfl | (with_reducible first | apply fT_Tapi_Record | apply f_tup | apply f_agg | apply f_cons))); done))) | ((with_reducible apply K_endS hm); (focus (simp only [resOf, resL, RV.get, push_cast, seval]; rfl)); (focus ((repeat' (first | rfl)); done))) | ((with_reducible apply K_bool hm); (simp only [push_cast, seval]; rfl))))
noncomputable def m_desk_recordFault (x0 : Tapi_Record) : Option (Int) := (sims_G1_3_0.1 x0).1
theorem spec_desk_recordFault (x0 : Tapi_Record) : ∀ r, m_desk_recordFault x0 = some r → PureSpec Tryd.prog 16 [.agg (rTapi_Record x0)] (.int .i64 r) := (sims_G1_3_0.1 x0).2
noncomputable def m_desk_RecordOf (x0 : Int) (x1 : List UInt8) (x2 : List UInt8) (x3 : List UInt8) : Option (Tapi_Record × Int) := (sims_G1_3_0.2 x0 x1 x2 x3).1
theorem spec_desk_RecordOf (x0 : Int) (x1 : List UInt8) (x2 : List UInt8) (x3 : List UInt8) : ∀ r, m_desk_RecordOf x0 x1 x2 x3 = some r → PureSpec Tryd.prog 8 [.int .i64 x0, .str x1, .str x2, .str x3] (.tup [.agg (rTapi_Record r.1), .int .i64 r.2]) := (sims_G1_3_0.2 x0 x1 x2 x3).2

def sc_desk_CheckArchive_L1 : SC :=
  (.seq (.reg [.r 12 (.bin .lss (.t 11) (.t 10))])
  (.seq (.cond (.t 12)
    .skip
    (.exit 0))
  (.seq (.block 1 (.seq (.reg [.r 13 (.mv (.t 11)),
       .r 14 (.idx 6 (.t 9) (.t 11)),
       .o 15 (.ldA 6 (.t 14)),
       .w 4 (.boxM (.c (.agg [.d (.int .i64 0), .d (.str []), .d (.str []), .d (.str []), .d (.bool false), .d (.str [])]))),
       .r 3 (.mv (.t 13)),
       .w 0 (.st 6 (.t 4) (.t 15))])
    (.seq (.seq (.reg [.o 16 (.ldA 6 (.t 4)),
       .c 17 (.f 16) [.t 16],
       .r 5 (.mv (.t 17))])
    (.seq (.reg [.r 18 (.mv (.t 5)),
       .r 19 (.bin .neq (.t 18) (.c (.d (.int .i64 0))))])
    (.cond (.t 19)
      (.seq (.reg [.r 20 (.mv (.t 5)),
         .r 2 (.mv (.t 20))])
      .ret)
      .skip)))
    (.seq (.regD (.r 21 (.mv (.t 3)) :: .r 22 (.bin .gtr (.t 21) (.c (.d (.int .i64 0)))) :: .r 23 (.mv (.t 22)) :: gapp [24, 25, 26, 27, 28, 29, 30, 31, 32] 23 true (.r 24 (.fld 0 (.t 4)) :: .r 25 (.ld1 (.t 24)) :: .r 26 (.mv (.t 0)) :: .r 27 (.mv (.t 3)) :: .r 28 (.bin .sub (.t 27) (.c (.d (.int .i64 1)))) :: .r 29 (.idx 6 (.t 26) (.t 28)) :: .r 30 (.fld 0 (.t 29)) :: .r 31 (.ld1 (.t 30)) :: .r 32 (.bin .lss (.t 25) (.t 31)) :: []) (.r 33 (.pick (.t 23) (.t 32) (.c (.d (.bool false)))) :: [])))
    (.cond (.t 33)
      (.seq (.reg [.r 2 (.mv (.c (.d (.int .i64 8))))])
      .ret)
      .skip)))))
  (.reg [.r 34 (.bin .add (.t 11) (.c (.d (.int .i64 1)))),
     .r 11 (.mv (.t 34))]))))
def sc_desk_CheckArchive_B1 : SC := .block 0 (.loop sc_desk_CheckArchive_L1)
/-- interchange/desk.CheckArchive -/
def sc_desk_CheckArchive : SC :=
  (.seq (.reg [.r 2 (.mv (.c (.d (.int .i64 0))))])
  (.seq (.seq (.reg [.r 6 (.mv (.t 0)),
     .r 7 (.len (.t 6)),
     .r 8 (.bin .gtr (.t 7) (.c (.d (.int .i64 2000))))])
  (.cond (.t 8)
    (.seq (.reg [.r 2 (.mv (.c (.d (.int .i64 2))))])
    .ret)
    .skip))
  (.seq (.seq (.reg [.r 9 (.mv (.t 0)),
     .r 10 (.len (.t 9)),
     .r 11 (.mv (.c (.d (.int .i64 0))))])
  sc_desk_CheckArchive_B1)
  (.seq (.reg [.r 2 (.mv (.c (.d (.int .i64 0))))])
  .ret))))
theorem fit_desk_CheckArchive : fits Tryd.prog 10 Tryd.f10 sc_desk_CheckArchive [.t 2] 1 = true := by kernel_rfl

set_option maxRecDepth 100000 in
set_option maxHeartbeats 40000000 in
noncomputable def sims_G1_4_0 : (∀ (x0 : List Tapi_Record), {m : Option (Int) // ∀ r, m = some r → PureSpec Tryd.prog 10 [.slice (List.map rTapi_Record x0)] (.int .i64 r)}) := by
  (intro x0; apply Subtype.mk; intro r hm; apply pure_walk Tryd.func10 fit_desk_CheckArchive; unfold sc_desk_CheckArchive)
  repeat' (first | with_reducible refine W_seq ?_ | with_reducible refine W_reg ?_ | with_reducible refine W_regD ?_ | with_reducible refine W_block ?_ | with_reducible refine W_skip ?_ | with_reducible refine W_ret ?_ | with_reducible refine W_exit ?_ | with_reducible refine O_nil ?_ | with_reducible refine K_seq ?_ | with_reducible refine K_seqE ?_ | with_reducible refine K_seqR ?_ | with_reducible refine K_block ?_ | with_reducible refine K_blockR ?_ | with_reducible refine O_o2r ?_ | ((with_reducible apply O_idxr hm); (iterate 2 (simp only [push_cast, seval]; rfl)); (intro _; rfl); intro e hm) | ((with_reducible apply O_r); (simp only [push_cast, seval]; rfl); (first | exact trivial)) | ((with_reducible apply O_and hm); (simp only [push_cast, seval]; rfl); rfl; intro v hm; rotate_left; intro v g hm) | ((with_reducible apply O_cF hm); (simp only [push_cast, seval]; rfl); (first | apply spec_desk_recordFault _); (any_goals ((repeat' (first | rfl)); done)); intro x hm) | ((with_reducible apply O_w); (simp only [push_cast, seval]; rfl); (first | exact trivial)) | ((with_reducible apply S_condB hm); (simp only [push_cast, seval]; rfl); intro hm; rotate_left; intro hm) | ((with_reducible apply K_endS hm); (focus (simp only [resOf, resL, RV.get, push_cast, seval]; rfl)); (focus ((repeat' (first | rfl)); done))) | ((with_reducible apply K_bool hm); (simp only [push_cast, seval]; rfl)) | ((with_reducible apply K_leave hm); intro r hm) | ((with_reducible apply K_leaveR hm); intro r hm) | ((apply S_loopY (b := 0) (X := sc_desk_CheckArchive_B1) (x := sc_desk_CheckArchive_L1) rfl (fun (c : SV × SV × SV) (s : Int) => st [(0, c.1), (9, c.2.1), (10, c.2.2), (11, .d (.int .i64 s))] []) (c := (_, _, _)) (s0 := _) hm); (focus (first | (dsimp only; done))); (with_reducible refine Then.mk ?_ ?_)) | ((apply K_next (s' := _) hm); (focus (first | (dsimp only; done)))) | ((apply K_brk (s' := _) hm); (focus (first | (dsimp only; done)))) | (((with_reducible apply K_brkR hm); intro r hm)) | (((with_reducible apply LoopB.of); (focus (first | (dsimp only; done))); (focus ((intro _; repeat' (first | with_reducible exact impC_end | with_reducible refine impC_seq ?_)))); (intro s o hm; first | unfold sc_desk_CheckArchive_L1); rotate_left; intro s hm)) | (((apply imp_stT; (repeat' (first | with_reducible exact keepT_nil | with_reducible exact keepC_nil | with_reducible apply keepT_cons | ((with_reducible apply svle_eq); (focus (first | (simp only [push_cast, seval]; rfl))); (focus ((repeat' (first | rfl)); done))))); done))))
noncomputable def m_desk_CheckArchive (x0 : List Tapi_Record) : Option (Int) := (sims_G1_4_0 x0).1
theorem spec_desk_CheckArchive (x0 : List Tapi_Record) : ∀ r, m_desk_CheckArchive x0 = some r → PureSpec Tryd.prog 10 [.slice (List.map rTapi_Record x0)] (.int .i64 r) := (sims_G1_4_0 x0).2

/-- interchange/desk.Head -/
def sc_desk_Head : SC :=
  (.seq (.reg [.r 4 (.mv (.c (.d (.str [])))),
     .r 5 (.mv (.c (.d (.int .i64 0))))])
  (.seq (.seq (.reg [.r 7 (.mv (.t 0)),
     .c 8 (.f 10) [.t 7],
     .r 6 (.mv (.t 8))])
  (.seq (.reg [.r 9 (.mv (.t 6)),
     .r 10 (.bin .neq (.t 9) (.c (.d (.int .i64 0))))])
  (.cond (.t 10)
    (.seq (.reg [.r 11 (.mv (.t 6)),
       .r 4 (.mv (.c (.d (.str [])))),
       .r 5 (.mv (.t 11))])
    .ret)
    .skip)))
  (.seq (.seq (.reg [.r 12 (.mv (.t 1)),
     .r 13 (.mv (.t 0)),
     .r 14 (.len (.t 13)),
     .c 15 (.f 11) [.t 12, .c (.d (.int .i64 0)), .t 14]])
  (.cond (.t 15)
    (.seq (.reg [.r 4 (.mv (.c (.d (.str [])))),
       .r 5 (.mv (.c (.d (.int .i64 1))))])
    .ret)
    .skip))
  (.seq (.reg [.r 16 (.mv (.t 0)),
     .r 17 (.mv (.t 1)),
     .r 18 (.slc 6 (.t 16) none (some (.t 17))),
     .c 19 (.f 12) [.t 18],
     .r 4 (.mv (.t 19)),
     .r 5 (.mv (.c (.d (.int .i64 0))))])
  .ret))))
theorem fit_desk_Head : fits Tryd.prog 4 Tryd.f4 sc_desk_Head [.t 4, .t 5] 2 = true := by kernel_rfl

set_option maxRecDepth 100000 in
set_option maxHeartbeats 40000000 in
noncomputable def sims_G1_5_0 : (∀ (x0 : List Tapi_Record) (x1 : Int), {m : Option ((List UInt8) × Int) // ∀ r, m = some r → PureSpec Tryd.prog 4 [.slice (List.map rTapi_Record x0), .int .i64 x1] (.tup [.str r.1, .int .i64 r.2])}) := by
  (intro x0 x1; apply Subtype.mk; intro r hm; apply pure_walk Tryd.func4 fit_desk_Head; unfold sc_desk_Head)
  repeat' (first | with_reducible refine W_seq ?_ | with_reducible refine W_reg ?_ | with_reducible refine W_skip ?_ | with_reducible refine W_ret ?_ | with_reducible refine O_nil ?_ | with_reducible refine K_seq ?_ | with_reducible refine K_seqR ?_ | ((with_reducible apply O_slcr hm); (iterate 3 (simp only [push_cast, seval]; rfl)); (intro _; rfl); intro e hm) | ((with_reducible apply O_r); (simp only [push_cast, seval]; rfl); (first | exact trivial)) | ((with_reducible apply O_cF hm); (simp only [push_cast, seval]; rfl); (first | apply spec_desk_CheckArchive _ | apply spec_kit_Outside _ _ _ | apply spec_desk_headOf _); (any_goals ((repeat' (first | rfl)); done)); intro x hm) | ((with_reducible apply S_condB hm); (simp only [push_cast, seval]; rfl); intro hm; rotate_left; intro hm) | ((with_reducible apply K_end2 hm); (focus (simp only [resOf, resL, RV.get, push_cast, seval]; rfl)); (focus (first | (dsimp only; done))); (focus ((repeat' (first | rfl)); done))))
noncomputable def m_desk_Head (x0 : List Tapi_Record) (x1 : Int) : Option ((List UInt8) × Int) := (sims_G1_5_0 x0 x1).1
theorem spec_desk_Head (x0 : List Tapi_Record) (x1 : Int) : ∀ r, m_desk_Head x0 x1 = some r → PureSpec Tryd.prog 4 [.slice (List.map rTapi_Record x0), .int .i64 x1] (.tup [.str r.1, .int .i64 r.2]) := (sims_G1_5_0 x0 x1).2

/-- interchange/desk.Proves -/
def sc_desk_Proves : SC :=
  (.seq (.reg [.r 6 (.mv (.c (.d (.bool false)))),
     .r 7 (.mv (.c (.d (.int .i64 0))))])
  (.seq (.reg [.r 11 (.mv (.t 0)),
     .r 12 (.mv (.t 1)),
     .c 13 (.f 4) [.t 11, .t 12],
     .r 10 (.mv (.t 13)),
     .r 14 (.ext (.t 10) 0),
     .r 15 (.ext (.t 10) 1),
     .r 8 (.mv (.t 14)),
     .r 9 (.mv (.t 15))])
  (.seq (.seq (.reg [.r 16 (.mv (.t 9)),
     .r 17 (.bin .neq (.t 16) (.c (.d (.int .i64 0))))])
  (.cond (.t 17)
    (.seq (.reg [.r 18 (.mv (.t 9)),
       .r 6 (.mv (.c (.d (.bool false)))),
       .r 7 (.mv (.t 18))])
    .ret)
    .skip))
  (.seq (.seq (.reg [.r 19 (.mv (.t 2)),
     .c 20 (.f 13) [.t 19],
     .r 21 (.not (.t 20))])
  (.cond (.t 21)
    (.seq (.reg [.r 6 (.mv (.c (.d (.bool false)))),
       .r 7 (.mv (.c (.d (.int .i64 3))))])
    .ret)
    .skip))
  (.seq (.reg [.r 22 (.mv (.t 8)),
     .r 23 (.mv (.t 2)),
     .r 24 (.bin .eql (.t 22) (.t 23)),
     .r 6 (.mv (.t 24)),
     .r 7 (.mv (.c (.d (.int .i64 0))))])
  .ret)))))
theorem fit_desk_Proves : fits Tryd.prog 6 Tryd.f6 sc_desk_Proves [.t 6, .t 7] 3 = true := by kernel_rfl

set_option maxRecDepth 100000 in
set_option maxHeartbeats 40000000 in
noncomputable def sims_G1_6_0 : (∀ (x0 : List Tapi_Record) (x1 : Int) (x2 : List UInt8), {m : Option (Bool × Int) // ∀ r, m = some r → PureSpec Tryd.prog 6 [.slice (List.map rTapi_Record x0), .int .i64 x1, .str x2] (.tup [.bool r.1, .int .i64 r.2])}) := by
  (intro x0 x1 x2; apply Subtype.mk; intro r hm; apply pure_walk Tryd.func6 fit_desk_Proves; unfold sc_desk_Proves)
  repeat' (first | with_reducible refine W_seq ?_ | with_reducible refine W_reg ?_ | with_reducible refine W_skip ?_ | with_reducible refine W_ret ?_ | with_reducible refine O_nil ?_ | with_reducible refine K_seq ?_ | with_reducible refine K_seqR ?_ | ((with_reducible apply O_r); (simp only [push_cast, seval]; rfl); (first | exact trivial)) | ((with_reducible apply O_cF hm); (simp only [push_cast, seval]; rfl); (first | apply spec_desk_Head _ _ | apply spec_desk_isDigest _); (any_goals ((repeat' (first | rfl)); done)); intro x hm) | ((with_reducible apply S_condB hm); (simp only [push_cast, seval]; rfl); intro hm; rotate_left; intro hm) | ((with_reducible apply K_end2 hm); (focus (simp only [resOf, resL, RV.get, push_cast, seval]; rfl)); (focus (first | (dsimp only; done))); (focus ((repeat' (first | rfl)); done))))
noncomputable def m_desk_Proves (x0 : List Tapi_Record) (x1 : Int) (x2 : List UInt8) : Option (Bool × Int) := (sims_G1_6_0 x0 x1 x2).1
theorem spec_desk_Proves (x0 : List Tapi_Record) (x1 : Int) (x2 : List UInt8) : ∀ r, m_desk_Proves x0 x1 x2 = some r → PureSpec Tryd.prog 6 [.slice (List.map rTapi_Record x0), .int .i64 x1, .str x2] (.tup [.bool r.1, .int .i64 r.2]) := (sims_G1_6_0 x0 x1 x2).2

end Go.Proofs.YthcfbglbjipdaaaDoor

/-
  slices.Clone at some types.
-/
namespace Go.Proofs.YthcfbglbjipdaaaDoor
open Go.RowKit Go.Shelf Go.Lib
def m_slices_Clone_interchange_api_Record_interchange_api_Record (l : List Tapi_Record) : Option (List Tapi_Record) := if l.length ≤ 137438953472 then some l else none
theorem spec_slices_Clone_interchange_api_Record_interchange_api_Record (l : List Tapi_Record) : ∀ r, m_slices_Clone_interchange_api_Record_interchange_api_Record l = some r → FSpec Tryd.prog 9 (([.slice (List.map rTapi_Record l)] : List DV).map .d) (.own (.sl 24 (List.replicate 6 .sh)) (.slice (List.map rTapi_Record r))) (([.slice (List.map rTapi_Record l)] : List DV).map .d) := by
  intro r hr
  unfold m_slices_Clone_interchange_api_Record_interchange_api_Record at hr
  split at hr
  · rename_i hlen
    cases hr
    exact clone_own Tryd.lays41_9 (i0 := (Tryd.prog.info? 24).get (by kernel_rfl)) (z := ((Tryd.prog.info? 24).get (by kernel_rfl)).zero.get (by kernel_rfl)) (size := 6) (bytes := ((Tryd.prog.info? 24).get (by kernel_rfl)).bytes) (Option.some_get _).symm (Option.some_get _).symm (by kernel_rfl) rfl (by kernel_rfl) (by decide) (of_decide_eq_true (by kernel_rfl)) Tryd.sizeOf24 (by kernel_rfl) (List.map rTapi_Record l) (by intro r hr; obtain ⟨b, _, rfl⟩ := List.mem_map.1 hr; rfl) (by simpa using hlen)
  · cases hr
end Go.Proofs.YthcfbglbjipdaaaDoor

/-
  Bodies of functions and what they compute, printed by programs of mine (wip/tool/gen.py, sc.py) out of the translation; the kernel holds each against the translation.
-/
namespace Go.Proofs.YthcfbglbjipdaaaDoor
open Go.RowKit
set_option linter.unusedSimpArgs false
set_option linter.unusedVariables false
/-- interchange/interchangelaw12.awake -/
def sc_interchangelaw12_awake : SC :=
  (.seq (.reg [.r 0 (.mv (.c (.d (.bool false))))])
  (.seq (.reg [.r 4 (.bslice 6 []),
     .c 5 (.f 4) [.t 4, .c (.d (.int .i64 0))],
     .r 3 (.mv (.t 5)),
     .r 6 (.ext (.t 3) 0),
     .r 7 (.ext (.t 3) 1),
     .r 1 (.mv (.t 6)),
     .r 2 (.mv (.t 7))])
  (.seq (.reg (.r 8 (.mv (.t 2)) :: .r 9 (.bin .eql (.t 8) (.c (.d (.int .i64 0)))) :: .r 10 (.mv (.t 9)) :: gapp [11, 12] 10 true (.r 11 (.mv (.t 1)) :: .r 12 (.bin .eql (.t 11) (.c (.d (.str [48, 48, 48, 48, 48, 48, 48, 48, 48, 48, 48, 48, 48, 48, 48, 48])))) :: []) (.r 13 (.pick (.t 10) (.t 12) (.c (.d (.bool false)))) :: .r 0 (.mv (.t 13)) :: [])))
  .ret)))
theorem fit_interchangelaw12_awake : fits Tryd.prog 5 Tryd.f5 sc_interchangelaw12_awake [.t 0] 0 = true := by kernel_rfl

def sc_desk_Dropped_L1 : SC :=
  (.seq (.reg [.r 22 (.bin .lss (.t 21) (.t 20))])
  (.seq (.cond (.t 22)
    .skip
    (.exit 0))
  (.seq (.block 1 (.seq (.reg [.r 23 (.mv (.t 21)),
       .r 24 (.idx 6 (.t 19) (.t 21)),
       .o 25 (.ldA 6 (.t 24)),
       .w 9 (.boxM (.c (.agg [.d (.int .i64 0), .d (.str []), .d (.str []), .d (.str []), .d (.bool false), .d (.str [])]))),
       .r 8 (.mv (.t 23)),
       .w 0 (.st 6 (.t 9) (.t 25))])
    (.seq (.reg [.r 26 (.fld 0 (.t 9)),
       .o 27 (.ld1 (.t 26)),
       .r 28 (.mv (.t 1)),
       .r 29 (.bin .lss (.t 27) (.t 28))])
    (.cond (.t 29)
      (.reg [.r 30 (.mv (.t 7)),
         .r 31 (.mv (.t 8)),
         .r 32 (.mv (.t 7)),
         .r 33 (.mv (.t 8)),
         .r 34 (.idx 6 (.t 30) (.t 31)),
         .r 35 (.fld 4 (.t 34)),
         .w 0 (.st 1 (.t 35) (.c (.d (.bool true)))),
         .r 36 (.idx 6 (.t 32) (.t 33)),
         .r 37 (.fld 5 (.t 36)),
         .w 0 (.st 1 (.t 37) (.c (.d (.str []))))])
      .skip))))
  (.reg [.r 38 (.bin .add (.t 21) (.c (.d (.int .i64 1)))),
     .r 21 (.mv (.t 38))]))))
def sc_desk_Dropped_B1 : SC := .block 0 (.loop sc_desk_Dropped_L1)
/-- interchange/desk.Dropped -/
def sc_desk_Dropped : SC :=
  (.seq (.reg [.r 4 (.mv (.c (.nils))),
     .r 5 (.mv (.c (.d (.int .i64 0))))])
  (.seq (.seq (.reg [.r 10 (.mv (.t 0)),
     .c 11 (.f 10) [.t 10],
     .r 6 (.mv (.t 11))])
  (.seq (.reg [.r 12 (.mv (.t 6)),
     .r 13 (.bin .neq (.t 12) (.c (.d (.int .i64 0))))])
  (.cond (.t 13)
    (.seq (.reg [.r 14 (.mv (.t 6)),
       .r 4 (.mv (.c (.nils))),
       .r 5 (.mv (.t 14))])
    .ret)
    .skip)))
  (.seq (.seq (.reg [.r 15 (.mv (.t 1)),
     .c 16 (.f 11) [.t 15, .c (.d (.int .i64 0)), .c (.d (.int .i64 2000000000000000))]])
  (.cond (.t 16)
    (.seq (.reg [.r 4 (.mv (.c (.nils))),
       .r 5 (.mv (.c (.d (.int .i64 1))))])
    .ret)
    .skip))
  (.seq (.reg [.r 17 (.mv (.t 0)),
     .p (some 18) (.f 9) [.t 17],
     .r 7 (.mv (.t 18))])
  (.seq (.seq (.reg [.r 19 (.mv (.t 7)),
     .r 20 (.len (.t 19)),
     .r 21 (.mv (.c (.d (.int .i64 0))))])
  sc_desk_Dropped_B1)
  (.seq (.reg [.r 39 (.mv (.t 7)),
     .r 4 (.mv (.t 39)),
     .r 5 (.mv (.c (.d (.int .i64 0))))])
  .ret))))))
theorem fit_desk_Dropped : fits Tryd.prog 7 Tryd.f7 sc_desk_Dropped [.t 4, .t 5] 2 = true := by kernel_rfl

set_option maxRecDepth 100000 in
set_option maxHeartbeats 40000000 in
noncomputable def sims_G2_0_0 : ({m : Option (Bool) // ∀ r, m = some r → PureSpec Tryd.prog 5 [] (.bool r)}) × (∀ (x0 : List Tapi_Record) (x1 : Int), {m : Option ((List Tapi_Record) × Int) // ∀ r, m = some r → PureSpec Tryd.prog 7 [.slice (List.map rTapi_Record x0), .int .i64 x1] (.tup [.slice (List.map rTapi_Record r.1), .int .i64 r.2])}) := by
  refine ⟨?g0, ?g1⟩
  case' g0 => (apply Subtype.mk; intro r hm; apply pure_walk Tryd.func5 fit_interchangelaw12_awake; unfold sc_interchangelaw12_awake)
  case' g1 => (intro x0 x1; apply Subtype.mk; intro r hm; apply pure_walk Tryd.func7 fit_desk_Dropped; unfold sc_desk_Dropped)
  all_goals (repeat' (first | with_reducible refine W_seq ?_ | with_reducible refine W_reg ?_ | with_reducible refine W_block ?_ | with_reducible refine W_skip ?_ | with_reducible refine W_ret ?_ | with_reducible refine W_exit ?_ | with_reducible refine O_nil ?_ | with_reducible refine K_seq ?_ | with_reducible refine K_seqE ?_ | with_reducible refine K_seqR ?_ | with_reducible refine K_block ?_ | with_reducible refine O_o2r ?_ | ((with_reducible apply O_idxVr hm); (iterate 3 (simp only [push_cast, seval]; rfl)); intro e hm) | ((with_reducible apply O_r); (simp only [push_cast, seval]; rfl); (first | exact trivial)) | ((with_reducible apply O_ldAVr hm); (iterate 2 (simp only [push_cast, seval]; rfl)); (intro _; rfl); intro e hm) | ((with_reducible apply O_and hm); (simp only [push_cast, seval]; rfl); rfl; intro v hm; rotate_left; intro v g hm) | ((with_reducible apply O_cF hm); (simp only [push_cast, seval]; rfl); (first | apply spec_desk_Head _ _ | apply spec_desk_CheckArchive _ | apply spec_kit_Outside _ _ _); (any_goals ((repeat' (first | rfl | (with_reducible first | apply dv_slice | apply f_cons | apply fold_nil))); done)); intro x hm) | ((with_reducible apply O_w); (simp only [push_cast, seval]; rfl); (first | exact trivial)) | ((with_reducible apply O_stV hm); (iterate 3 (simp only [push_cast, seval]; rfl)); rfl; (intro _; rfl); rfl; (focus (intro a; simp only [push_cast, seval]; rfl)); (focus (intro a; (repeat' (first | rfl | with_reducible apply eT_Tapi_Record)); done)); intro e hm) | ((with_reducible apply S_condB hm); (simp only [push_cast, seval]; rfl); intro hm; rotate_left; intro hm) | ((with_reducible apply K_end2 hm); (focus (simp only [resOf, resL, RV.get, push_cast, seval]; rfl)); (focus (first | (dsimp only; done))); (focus ((repeat' (first | rfl | (with_reducible first | apply f_tup | apply dv_slice | apply f_cons | apply fold_nil))); done))) | ((with_reducible apply K_endS hm); (focus (simp only [resOf, resL, RV.get, push_cast, seval]; rfl)); (focus ((repeat' (first | rfl)); done))) | ((with_reducible apply K_bool hm); (simp only [push_cast, seval]; rfl)) | ((with_reducible apply K_leave hm); intro r hm) | ((apply S_loopY (b := 0) (X := sc_desk_Dropped_B1) (x := sc_desk_Dropped_L1) rfl (fun (c : SV × SV) (s : (List Tapi_Record) × Int) => st [(1, c.1), (7, .vec 18), (19, .vec 18), (20, c.2), (21, .d (.int .i64 s.2))] [(18, .vec 24 6 (vrow rTapi_Record s.1))]) (c := (_, _)) (s0 := (_, _)) hm); (focus (first | (dsimp only; done))); (with_reducible refine Then.mk ?_ ?_)) | ((apply K_next (s' := (_, _)) hm); (focus (first | (dsimp only; done)))) | ((apply K_brk (s' := (_, _)) hm); (focus (first | (dsimp only; done)))) | (((with_reducible apply O_pO hm); (focus (simp only [push_cast, seval]; rfl)); (first | apply spec_slices_Clone_interchange_api_Record_interchange_api_Record _); (any_goals (focus ((repeat' (first | rfl)); done))); (any_goals (focus (intro _; rfl))); intro y hm)) | (((with_reducible apply LoopB.of); (focus (first | (dsimp only; done))); (focus ((intro _; repeat' (first | with_reducible exact impC_end | with_reducible refine impC_seq ?_)))); (intro s o hm; first | unfold sc_desk_Dropped_L1); rotate_left; intro s hm)) | (((apply imp_stT; (repeat' (first | with_reducible exact keepT_nil | with_reducible exact keepC_nil | with_reducible apply keepT_cons | with_reducible apply keepC_cons | ((with_reducible apply svle_eq); (focus (first | (simp only [push_cast, seval]; rfl))); (focus ((repeat' (first | rfl)); done))) | ((with_reducible apply chle_eq); (focus (first | (simp only [push_cast, seval]; rfl))); (first | with_reducible exact chle_rfl rfl)))); done)))))
noncomputable def m_interchangelaw12_awake : Option (Bool) := (sims_G2_0_0.1 ).1
theorem spec_interchangelaw12_awake : ∀ r, m_interchangelaw12_awake  = some r → PureSpec Tryd.prog 5 [] (.bool r) := (sims_G2_0_0.1 ).2
noncomputable def m_desk_Dropped (x0 : List Tapi_Record) (x1 : Int) : Option ((List Tapi_Record) × Int) := (sims_G2_0_0.2 x0 x1).1
theorem spec_desk_Dropped (x0 : List Tapi_Record) (x1 : Int) : ∀ r, m_desk_Dropped x0 x1 = some r → PureSpec Tryd.prog 7 [.slice (List.map rTapi_Record x0), .int .i64 x1] (.tup [.slice (List.map rTapi_Record r.1), .int .i64 r.2]) := (sims_G2_0_0.2 x0 x1).2

/-- interchange/interchangelaw12.DeskHeadsStay -/
def sc_interchangelaw12_DeskHeadsStay : SC :=
  (.seq (.reg [.r 7 (.boxI (.t 3)),
     .r 8 (.mv (.c (.d (.bool false))))])
  (.seq (.reg [.r 19 (.mv (.t 0)),
     .r 20 (.mv (.t 1)),
     .c 21 (.f 4) [.t 19, .t 20],
     .r 18 (.mv (.t 21)),
     .r 22 (.ext (.t 18) 0),
     .r 23 (.ext (.t 18) 1),
     .r 9 (.mv (.t 22)),
     .r 10 (.mv (.t 23))])
  (.seq (.seq (.reg [.r 24 (.mv (.t 10)),
     .r 25 (.bin .neq (.t 24) (.c (.d (.int .i64 0))))])
  (.cond (.t 25)
    (.seq (.reg (.r 26 (.mv (.t 9)) :: .r 27 (.bin .eql (.t 26) (.c (.d (.str [])))) :: .r 28 (.mv (.t 27)) :: gapp [29] 28 true (.c 29 (.f 5) [] :: []) (.r 30 (.pick (.t 28) (.t 29) (.c (.d (.bool false)))) :: .r 8 (.mv (.t 30)) :: [])))
    .ret)
    .skip))
  (.seq (.reg [.r 32 (.mv (.t 0)),
     .r 33 (.mv (.t 1)),
     .r 34 (.mv (.t 9)),
     .c 35 (.f 6) [.t 32, .t 33, .t 34],
     .r 31 (.mv (.t 35)),
     .r 36 (.ext (.t 31) 0),
     .r 37 (.ext (.t 31) 1),
     .r 11 (.mv (.t 36)),
     .r 10 (.mv (.t 37))])
  (.seq (.seq (.reg (.r 38 (.mv (.t 10)) :: .r 39 (.bin .neq (.t 38) (.c (.d (.int .i64 0)))) :: .r 40 (.mv (.t 39)) :: gapp [41, 42] 40 false (.r 41 (.mv (.t 11)) :: .r 42 (.not (.t 41)) :: []) (.r 43 (.pick (.t 40) (.c (.d (.bool true))) (.t 42)) :: .r 44 (.mv (.t 43)) :: gapp [45, 46, 47] 44 false (.r 45 (.mv (.t 9)) :: .r 46 (.lenT (.t 45)) :: .r 47 (.bin .neq (.t 46) (.c (.d (.int .i64 16)))) :: []) (.r 48 (.pick (.t 44) (.c (.d (.bool true))) (.t 47)) :: []))))
  (.cond (.t 48)
    (.seq (.reg [.r 8 (.mv (.c (.d (.bool false))))])
    .ret)
    .skip))
  (.seq (.seq (.reg [.r 50 (.mv (.t 0)),
     .r 51 (.mv (.t 2)),
     .c 52 (.f 7) [.t 50, .t 51],
     .r 49 (.mv (.t 52)),
     .r 53 (.ext (.t 49) 0),
     .r 54 (.ext (.t 49) 1),
     .r 12 (.mv (.t 53)),
     .r 13 (.mv (.t 54))])
  (.seq (.reg [.r 55 (.mv (.t 13)),
     .r 56 (.bin .eql (.t 55) (.c (.d (.int .i64 0))))])
  (.cond (.t 56)
    (.seq (.reg [.r 58 (.mv (.t 12)),
       .r 59 (.mv (.t 1)),
       .r 60 (.mv (.t 9)),
       .c 61 (.f 6) [.t 58, .t 59, .t 60],
       .r 57 (.mv (.t 61)),
       .r 62 (.ext (.t 57) 0),
       .r 63 (.ext (.t 57) 1),
       .r 14 (.mv (.t 62)),
       .r 15 (.mv (.t 63))])
    (.seq (.reg (.r 64 (.mv (.t 15)) :: .r 65 (.bin .neq (.t 64) (.c (.d (.int .i64 0)))) :: .r 66 (.mv (.t 65)) :: gapp [67, 68] 66 false (.r 67 (.mv (.t 14)) :: .r 68 (.not (.t 67)) :: []) (.r 69 (.pick (.t 66) (.c (.d (.bool true))) (.t 68)) :: .r 70 (.mv (.t 69)) :: gapp [71, 72, 73, 74, 75] 70 false (.r 71 (.mv (.t 12)) :: .r 72 (.len (.t 71)) :: .r 73 (.mv (.t 0)) :: .r 74 (.len (.t 73)) :: .r 75 (.bin .neq (.t 72) (.t 74)) :: []) (.r 76 (.pick (.t 70) (.c (.d (.bool true))) (.t 75)) :: []))))
    (.cond (.t 76)
      (.seq (.reg [.r 8 (.mv (.c (.d (.bool false))))])
      .ret)
      .skip)))
    .skip)))
  (.seq (.reg [.r 78 (.fld 0 (.t 7)),
     .o 79 (.ld1 (.t 78)),
     .r 80 (.fld 1 (.t 7)),
     .o 81 (.ld1 (.t 80)),
     .r 82 (.fld 2 (.t 7)),
     .o 83 (.ld1 (.t 82)),
     .r 84 (.fld 5 (.t 7)),
     .o 85 (.ld1 (.t 84)),
     .c 86 (.f 8) [.t 79, .t 81, .t 83, .t 85],
     .r 77 (.mv (.t 86)),
     .r 87 (.ext (.t 77) 0),
     .r 88 (.ext (.t 77) 1),
     .w 16 (.boxM (.c (.agg [.d (.int .i64 0), .d (.str []), .d (.str []), .d (.str []), .d (.bool false), .d (.str [])]))),
     .w 0 (.st 6 (.t 16) (.t 87)),
     .r 10 (.mv (.t 88))])
  (.seq (.regP [0, 2, 3, 1, 4, 5] [.r 89 (.mv (.t 0)),
     .r 91 (.ldA 6 (.t 16)),
     .r 92 (.bslice 6 [.t 91]),
     .q 90 (.f 9) [.t 89] [(1, 91, .ldA 6 (.t 16)), (2, 92, .bslice 6 [.t 91])],
     .x 93 (.app 24 6 (.t 90) (.t 92)) [],
     .r 17 (.mv (.t 93))])
  (.seq (.seq (.reg (.r 94 (.mv (.t 10)) :: .r 95 (.bin .neq (.t 94) (.c (.d (.int .i64 0)))) :: .r 96 (.mv (.t 95)) :: gapp [97, 98, 99] 96 false (.r 97 (.mv (.t 17)) :: .c 98 (.f 10) [.t 97] :: .r 99 (.bin .neq (.t 98) (.c (.d (.int .i64 0)))) :: []) (.r 100 (.pick (.t 96) (.c (.d (.bool true))) (.t 99)) :: [])))
  (.cond (.t 100)
    (.seq (.reg [.c 101 (.f 5) [],
       .r 8 (.mv (.t 101))])
    .ret)
    .skip))
  (.seq (.reg [.r 103 (.mv (.t 17)),
     .r 104 (.mv (.t 1)),
     .r 105 (.mv (.t 9)),
     .c 106 (.f 6) [.t 103, .t 104, .t 105],
     .r 102 (.mv (.t 106)),
     .r 107 (.ext (.t 102) 0),
     .r 108 (.ext (.t 102) 1),
     .r 11 (.mv (.t 107)),
     .r 10 (.mv (.t 108))])
  (.seq (.reg (.r 109 (.mv (.t 10)) :: .r 110 (.bin .eql (.t 109) (.c (.d (.int .i64 0)))) :: .r 111 (.mv (.t 110)) :: gapp [112] 111 true (.r 112 (.mv (.t 11)) :: []) (.r 113 (.pick (.t 111) (.t 112) (.c (.d (.bool false)))) :: .r 114 (.mv (.t 113)) :: gapp [115] 114 true (.c 115 (.f 5) [] :: []) (.r 116 (.pick (.t 114) (.t 115) (.c (.d (.bool false)))) :: .r 8 (.mv (.t 116)) :: []))))
  .ret)))))))))))
theorem fit_interchangelaw12_DeskHeadsStay : fits Tryd.prog 3 Tryd.f3 sc_interchangelaw12_DeskHeadsStay [.t 8] 4 = true := by kernel_rfl

set_option maxRecDepth 100000 in
set_option maxHeartbeats 40000000 in
noncomputable def sims_G2_1_0 : (∀ (x0 : List Tapi_Record) (x1 : Int) (x2 : Int) (x3 : Tapi_Record), {m : Option (Bool) // ∀ r, m = some r → PureSpec Tryd.prog 3 [.slice (List.map rTapi_Record x0), .int .i64 x1, .int .i64 x2, .agg (rTapi_Record x3)] (.bool r)}) := by
  (intro x0 x1 x2 x3; apply Subtype.mk; intro r hm; apply pure_walk Tryd.func3 fit_interchangelaw12_DeskHeadsStay; unfold sc_interchangelaw12_DeskHeadsStay)
  repeat' (first | with_reducible refine W_seq ?_ | with_reducible refine W_reg ?_ | with_reducible refine W_regP ?_ | with_reducible refine W_skip ?_ | with_reducible refine W_ret ?_ | with_reducible refine O_nil ?_ | with_reducible refine K_seq ?_ | with_reducible refine K_seqR ?_ | with_reducible refine O_o2r ?_ | ((with_reducible apply O_r); (simp only [push_cast, seval]; rfl); (first | exact trivial)) | ((with_reducible apply O_and hm); (simp only [push_cast, seval]; rfl); rfl; intro v hm; rotate_left; intro v g hm) | ((with_reducible apply O_or hm); (simp only [push_cast, seval]; rfl); rfl; intro v hm; rotate_left; intro v g hm) | ((with_reducible apply O_cF hm); (simp only [push_cast, seval]; rfl); (first | apply spec_desk_Head _ _ | apply spec_interchangelaw12_awake | apply spec_desk_Proves _ _ _ | apply spec_desk_Dropped _ _ | apply spec_desk_RecordOf _ _ _ _); (any_goals ((repeat' (first | rfl)); done)); intro x hm) | ((with_reducible apply O_clS hm); (simp only [push_cast, seval]; rfl); (focus (first | exact spec_desk_Proves _ _ _ | exact spec_desk_CheckArchive _)); (intro _; rfl); intro x hm) | ((with_reducible apply O_w); (simp only [push_cast, seval]; rfl); (first | exact trivial)) | ((with_reducible apply O_appVX hm); (iterate 2 (simp only [push_cast, seval]; rfl)); (focus ((repeat' (first | rfl)); done)); (simp only [push_cast, seval]; rfl); (focus ((repeat' (first | rfl | (with_reducible first | apply eR_nil | apply eR_cons))); done)); (intro _; rfl); (focus ((repeat' (first | exact Rer_nil)); done)); intro hm) | ((with_reducible apply S_condB hm); (simp only [push_cast, seval]; rfl); intro hm; rotate_left; intro hm) | ((with_reducible apply K_endS hm); (focus (simp only [resOf, resL, RV.get, push_cast, seval]; rfl)); (focus ((repeat' (first | rfl)); done))) | ((with_reducible apply K_bool hm); (simp only [push_cast, seval]; rfl)) | (((with_reducible apply O_qO hm); (focus (simp only [push_cast, seval]; rfl)); (first | apply spec_slices_Clone_interchange_api_Record_interchange_api_Record _); (any_goals (focus ((repeat' (first | rfl)); done))); (any_goals (focus (intro _; rfl))); (focus (intro _; (repeat' (first | exact Rer_nil | ((with_reducible apply Rer_cons); (focus (simp only [push_cast, seval]; rfl)); (focus (first | exact trivial)); (focus (simp only [push_cast, seval]))))))); intro y hm)))
noncomputable def m_interchangelaw12_DeskHeadsStay (x0 : List Tapi_Record) (x1 : Int) (x2 : Int) (x3 : Tapi_Record) : Option (Bool) := (sims_G2_1_0 x0 x1 x2 x3).1
theorem spec_interchangelaw12_DeskHeadsStay (x0 : List Tapi_Record) (x1 : Int) (x2 : Int) (x3 : Tapi_Record) : ∀ r, m_interchangelaw12_DeskHeadsStay x0 x1 x2 x3 = some r → PureSpec Tryd.prog 3 [.slice (List.map rTapi_Record x0), .int .i64 x1, .int .i64 x2, .agg (rTapi_Record x3)] (.bool r) := (sims_G2_1_0 x0 x1 x2 x3).2

end Go.Proofs.YthcfbglbjipdaaaDoor

/-
  How the parameters of the laws of this seat read, and a world in which the listed tables lie (printed by wip/tool/row.py).
-/
namespace Go.Proofs.YthcfbglbjipdaaaDoor
open Go.ChangeShapes Go.WideShapes Go.ChangeAt Go.RowKit
set_option linter.unusedSimpArgs false
set_option linter.unusedVariables false
theorem and_t {a b : Bool} (h1 : a = true) (h2 : b = true) : (a && b) = true := by rw [h1, h2]; rfl
/-- How a value of a type reads. -/
def Wt (P : Program) (n : Nat) (t : TypeId) {α : Type} (row : α → List DV) (ok : α → Prop) : Prop := ∀ m ds, WT P (m + n) t ds → ∃ x, ds = row x ∧ ok x
theorem Wt.up {P : Program} {n : Nat} {t : TypeId} {α : Type} {row : α → List DV} {ok : α → Prop} (h : Wt P n t row ok) (k : Nat) : Wt P (n + k) t row ok := fun m ds hd => h (m + k) ds (by rwa [show m + k + n = m + (n + k) by omega])
def okI (n : Int) : Prop := -9223372036854775808 ≤ n ∧ n ≤ 9223372036854775807
def okS (s : List UInt8) : Prop := s.length ≤ 9223372036854775807
def okB (_ : Bool) : Prop := True
def okL {α : Type} (ok : α → Prop) (l : List α) : Prop := l.length ≤ 9223372036854775807 ∧ ∀ a ∈ l, ok a
theorem WT_struct {P : Program} {n : Nat} {t : TypeId} {fs : Array Field} {ds : List DV} (hu : P.underlying t = some (.struct fs)) (h : WT P (n + 1) t ds) : WTS (WT P n) fs.toList ds := by
  simp only [WT, hu] at h; exact h
theorem wt_int {P : Program} {t : TypeId} (hu : P.underlying t = some (.int .i64)) : Wt P 1 t rowI okI := by
  intro m ds h
  simp only [WT, hu] at h
  obtain ⟨k, rfl, hw⟩ := h
  refine ⟨k, rfl, ?_⟩
  simp [Lit.wf] at hw
  have e : IntKind.i64.min = -9223372036854775808 := by decide
  unfold okI; omega
theorem wt_bool {P : Program} {t : TypeId} (hu : P.underlying t = some .bool) : Wt P 1 t rowB okB := by
  intro m ds h
  simp only [WT, hu] at h
  obtain ⟨b, rfl⟩ := h
  exact ⟨b, rfl, trivial⟩
theorem wt_str {P : Program} {t : TypeId} (hu : P.underlying t = some .string) : Wt P 1 t rowS okS := by
  intro m ds h
  simp only [WT, hu] at h
  obtain ⟨b, rfl, hl⟩ := h
  exact ⟨b, rfl, by unfold okS; unfold maxLen at hl; omega⟩
theorem wt_slice {P : Program} {n : Nat} {t e : TypeId} {α : Type} {row : α → List DV} {ok : α → Prop} (hu : P.underlying t = some (.slice e)) (he : Wt P n e row ok) : Wt P (n + 1) t (rowL row) (okL ok) := by
  intro m ds h
  rw [show m + (n + 1) = (m + n) + 1 by omega] at h
  simp only [WT, hu] at h
  obtain ⟨rows, rfl, hl, hr⟩ := h
  have : ∀ rows : List (List DV), (∀ r ∈ rows, WT P (m + n) e r) → ∃ l : List α, rows = l.map row ∧ ∀ a ∈ l, ok a := by
    intro rows
    induction rows with
    | nil => intro _; exact ⟨[], rfl, by simp⟩
    | cons r rows ih =>
      intro h
      obtain ⟨a, rfl, ha⟩ := he m r (h r (by simp))
      obtain ⟨l, rfl, hl⟩ := ih (fun r hr => h r (by simp [hr]))
      exact ⟨a :: l, rfl, by simpa using ⟨ha, hl⟩⟩
  obtain ⟨l, rfl, hok⟩ := this rows hr
  exact ⟨l, rfl, by unfold maxLen at hl; simp at hl; omega, hok⟩
theorem ownK : ownKnob Tryd.prog.godebug = none := by kernel_rfl
theorem laidOut : laidOutB Tryd.prog = true := by kernel_rfl
theorem wt3 : Wt Tryd.prog 1 3 rowI okI := wt_int Tryd.underlying3
theorem wt9 : Wt Tryd.prog 1 9 rowS okS := wt_str Tryd.underlying9
theorem wt4 : Wt Tryd.prog 1 4 rowB okB := wt_bool Tryd.underlying4
def okTapi_Record (x : Tapi_Record) : Prop := okI x.fTime ∧ okS x.fKind ∧ okS x.fKey ∧ okS x.fDigest ∧ okB x.fDropped ∧ okS x.fText
set_option maxRecDepth 100000 in
theorem wt24 : Wt Tryd.prog 2 24 rTapi_Record okTapi_Record := by
  intro m ds h
  have h := WT_struct Tryd.underlying24 h
  simp only [WTS] at h
  obtain ⟨a0, _, rfl, h0, a1, _, rfl, h1, a2, _, rfl, h2, a3, _, rfl, h3, a4, _, rfl, h4, a5, _, rfl, h5, rfl⟩ := h
  obtain ⟨x0, rfl, o0⟩ := (wt3.up 0) m _ h0
  obtain ⟨x1, rfl, o1⟩ := (wt9.up 0) m _ h1
  obtain ⟨x2, rfl, o2⟩ := (wt9.up 0) m _ h2
  obtain ⟨x3, rfl, o3⟩ := (wt9.up 0) m _ h3
  obtain ⟨x4, rfl, o4⟩ := (wt4.up 0) m _ h4
  obtain ⟨x5, rfl, o5⟩ := (wt9.up 0) m _ h5
  refine ⟨⟨x0, x1, x2, x3, x4, x5⟩, ?_, o0, o1, o2, o3, o4, o5⟩
  simp only [rTapi_Record, rowI, rowY, rowS, rowB, rowL, List.append_assoc, List.cons_append, List.nil_append, List.append_nil]
theorem wt22 : Wt Tryd.prog 3 22 (rowL rTapi_Record) (okL okTapi_Record) := wt_slice Tryd.underlying22 wt24
def layVals : Nat → DataW Unit → List Value
  | 0, _ => []
  | _ + 1, .lit (.int k n) => [.int k n]
  | n + 1, .agg ps => ps.flatMap (layVals n)
  | _ + 1, _ => []
/-- The settled world, with the listed tables in it. -/
def layCells (l : List Value) : Obj → Obj
  | .cells _ t frozen => .cells l.toArray t frozen
  | o => o
noncomputable def laidWorld (os : Os) : World :=
  { World.holding Tryd.prog os ⟨#[], #[], []⟩ with
    heap := ((((((World.holding Tryd.prog os ⟨#[], #[], []⟩).heap.modify 4 (layCells (layVals 5 Rows.laid_math_bits_deBruijn32tab))).modify 5 (layCells (layVals 5 Rows.laid_math_bits_deBruijn64tab))).modify 0 (layCells (layVals 5 Rows.laid_internal_strconv_uint64pow10))).modify 3 (layCells (layVals 5 Rows.laid_unicode_utf8_acceptRanges))).modify 2 (layCells (layVals 5 Rows.laid_unicode_utf8_first))) }
end Go.Proofs.YthcfbglbjipdaaaDoor

/-
  Plain laws: small computations, and loops whose rounds are known.
-/
namespace Go.Proofs.YthcfbglbjipdaaaDoor
set_option linter.unusedSimpArgs false
set_option linter.unusedVariables false
open Go.RowKit

/-! ### Small computations that cannot fail -/
theorem andO_some (a b : Bool) : andO a (some b) = some (a && b) := by cases a <;> rfl
theorem orO_some (a b : Bool) : orO a (some b) = some (a || b) := by cases a <;> rfl
theorem getI_nat {α : Type} (l : List α) (i : Nat) : getI l (i : Int) = l[i]? := by simp [getI]
theorem thenO_some {R : Type} {c : Option Unit} {m : Option R} (h : c = some ()) : thenO c m = m := by rw [h]; rfl
theorem lenO_ok {n : Nat} (h : n ≤ 137438953472) : lenO n = some () := by simp [lenO, h]
theorem wrapN (i : Nat) (h : i < 9223372036854775807) : IntKind.i64.wrap ((i : Int) + 1) = ((i + 1 : Nat) : Int) := by rw [wrap64 _ (by omega) (by omega)]; simp


/-! ### Loops whose rounds are known -/
theorem loop_trace {S A : Type} {f : S → Option (S ⊕ A)} {a : A} (st : Nat → S) (n : Nat) (hs : ∀ i, i < n → f (st i) = some (.inl (st (i + 1)))) (he : f (st n) = some (.inr a)) : loopC f (st 0) = some a := by
  have : ∀ k, k ≤ n → loopC f (st (n - k)) = some a := by
    intro k
    induction k with
    | zero => intro _; rw [loopC_eq, Nat.sub_zero, he]
    | succ k ih =>
      intro hk
      rw [loopC_eq, hs (n - (k + 1)) (by omega), show n - (k + 1) + 1 = n - k by omega]
      exact ih (by omega)
  have := this n (Nat.le_refl n)
  rwa [Nat.sub_self] at this
theorem bind_loop {S A R : Type} {f : S → Option (S ⊕ A)} {s0 : S} {k : A → Option R} {a : A} {r : Option R} (h : loopC f s0 = some a) (hk : k a = r) : (loopC f s0).bind k = r := by rw [h]; exact hk
/-- The first that there is. -/
def firstS {A : Type} (g : Nat → Option A) : Nat → Nat → Option A
  | _, 0 => none
  | i, n + 1 => match g i with
    | some a => some a
    | none => firstS g (i + 1) n
theorem firstS_skip {A : Type} {g : Nat → Option A} : ∀ (i n k : Nat), k ≤ n → (∀ j, i ≤ j → j < i + k → g j = none) → firstS g i n = firstS g (i + k) (n - k)
  | i, n, 0, _, _ => by simp
  | i, 0, k + 1, h, _ => by omega
  | i, n + 1, k + 1, h, hz => by
    have h1 := hz i (by omega) (by omega)
    simp only [firstS, h1]
    rw [firstS_skip (i + 1) n k (by omega) (fun j hj hj' => hz j (by omega) (by omega))]
    congr 1 <;> omega
theorem firstS_none {A : Type} {g : Nat → Option A} {n : Nat} (h : ∀ j, j < n → g j = none) : firstS g 0 n = none := by
  rw [firstS_skip 0 n n (by omega) (fun j _ hj => h j (by omega)), Nat.sub_self]; rfl
theorem firstS_some {A : Type} {g : Nat → Option A} {n k : Nat} {a : A} (hk : k < n) (hb : ∀ j, j < k → g j = none) (ha : g k = some a) : firstS g 0 n = some a := by
  rw [firstS_skip 0 n k (by omega) (fun j _ hj => hb j (by omega))]
  obtain ⟨m, hm⟩ : ∃ m, n - k = m + 1 := ⟨n - k - 1, by omega⟩
  rw [hm, Nat.zero_add]
  simp only [firstS, ha]
theorem firstS_cases {A : Type} (g : Nat → Option A) (n : Nat) : (firstS g 0 n = none ∧ ∀ j, j < n → g j = none) ∨ ∃ k a, k < n ∧ (∀ j, j < k → g j = none) ∧ g k = some a ∧ firstS g 0 n = some a := by
  by_cases h : ∃ k, k < n ∧ (g k).isSome = true
  · have : ∃ k, (k < n ∧ (g k).isSome = true) ∧ ∀ j, j < k → ¬ (j < n ∧ (g j).isSome = true) := by
      obtain ⟨k, hk⟩ := h
      induction k using Nat.strongRecOn with
      | _ k ih =>
        by_cases hj : ∃ j, j < k ∧ (j < n ∧ (g j).isSome = true)
        · obtain ⟨j, h1, h2⟩ := hj; exact ih j h1 h2
        · exact ⟨k, hk, fun j h1 h2 => hj ⟨j, h1, h2⟩⟩
    obtain ⟨k, ⟨h1, h2⟩, h3⟩ := this
    obtain ⟨a, ha⟩ := Option.isSome_iff_exists.1 h2
    have hb : ∀ j, j < k → g j = none := fun j hj => by
      have := h3 j hj
      cases hg : g j with
      | none => rfl
      | some b => exact absurd ⟨by omega, by simp [hg]⟩ this
    exact .inr ⟨k, a, h1, hb, ha, firstS_some h1 hb ha⟩
  · have hn : ∀ j, j < n → g j = none := fun j hj => by
      cases hg : g j with
      | none => rfl
      | some b => exact absurd ⟨j, hj, by simp [hg]⟩ h
    exact .inl ⟨firstS_none hn, hn⟩
theorem loop_first {S A : Type} {f : S → Option (S ⊕ A)} {z : A} (st : Nat → S) (n : Nat) (g : Nat → Option A) (hs : ∀ i, i < n → g i = none → f (st i) = some (.inl (st (i + 1)))) (hx : ∀ i a, i < n → g i = some a → f (st i) = some (.inr a)) (he : f (st n) = some (.inr z)) : loopC f (st 0) = some ((firstS g 0 n).getD z) := by
  rcases firstS_cases g n with ⟨h1, h2⟩ | ⟨k, a, h1, h2, h3, h4⟩
  · rw [h1, Option.getD_none]
    exact loop_trace st n (fun i hi => hs i hi (h2 i hi)) he
  · rw [h4, Option.getD_some]
    exact loop_trace st k (fun i hi => hs i (by omega) (h2 i hi)) (hx k a h1 h3)
theorem take_snoc {α : Type} {l : List α} {i : Nat} {e : α} (h : l[i]? = some e) : l.take (i + 1) = l.take i ++ [e] := by rw [List.take_add_one, h]; rfl
theorem get_lt {α : Type} {l : List α} {i : Nat} (h : i < l.length) : ∃ e, l[i]? = some e := ⟨_, List.getElem?_eq_getElem h⟩
theorem lt_dec {i n : Nat} (h : i < n) : decide ((i : Int) < (n : Int)) = true := by simpa using h
theorem lt_dec_self (n : Nat) : decide ((n : Int) < (n : Int)) = false := by simp
end Go.Proofs.YthcfbglbjipdaaaDoor

/-
  Plain laws: loops over lists with a state and an early end; folds over nested lists.
-/
namespace Go.Proofs.YthcfbglbjipdaaaDoor
set_option linter.unusedSimpArgs false
set_option linter.unusedVariables false
open Go.RowKit

/-- A loop over a list whose state before each round is known from what is before. -/
theorem loop_pre {α T A : Type} (l : List α) (st : Nat → List α → T) {f : T → Option (T ⊕ A)} {a : A}
    (hb : ∀ (i : Nat) (e : α), l[i]? = some e → f (st i (l.take i)) = some (.inl (st (i + 1) (l.take i ++ [e]))))
    (he : f (st l.length l) = some (.inr a)) : loopC f (st 0 []) = some a := by
  have := loop_trace (f := f) (a := a) (fun i => st i (l.take i)) l.length (fun i hi => by
    obtain ⟨e, h⟩ := get_lt hi
    show f (st i (l.take i)) = some (.inl (st (i + 1) (l.take (i + 1))))
    rw [hb i e h, take_snoc h]) (by
    show f (st l.length (l.take l.length)) = _
    rw [List.take_length]; exact he)
  simpa using this
theorem get_le {α : Type} {l : List α} {i : Nat} {e : α} (h : l[i]? = some e) : i < l.length := (List.getElem?_eq_some_iff.1 h).1
theorem thenO_ok {R : Type} {n : Nat} {m : Option R} (h : n ≤ 137438953472) : thenO (lenO n) m = m := thenO_some (lenO_ok h)
end Go.Proofs.YthcfbglbjipdaaaDoor

/-
  Plain laws of the archive: digests are sixteen digits.
-/
namespace Go.Proofs.YthcfbglbjipdaaaDoor
set_option linter.unusedSimpArgs false
set_option linter.unusedVariables false
open Go.RowKit

def hexSet : List UInt8 := [48, 49, 50, 51, 52, 53, 54, 55, 56, 57, 97, 98, 99, 100, 101, 102]
def hexB (b : UInt8) : Bool := hexSet.contains b
def dig36 : List UInt8 := [48, 49, 50, 51, 52, 53, 54, 55, 56, 57, 97, 98, 99, 100, 101, 102, 103, 104, 105, 106, 107, 108, 109, 110, 111, 112, 113, 114, 115, 116, 117, 118, 119, 120, 121, 122]
theorem dig_hex (n : Int) (h0 : 0 ≤ n) (h1 : n < 16) : ∃ e, getI dig36 n = some e ∧ hexB e = true := by
  obtain ⟨k, rfl⟩ : ∃ k : Nat, n = (k : Int) := ⟨n.toNat, by omega⟩
  have : ∀ j : Fin 16, ∃ e, dig36[j.1]? = some e ∧ hexB e = true := by decide
  obtain ⟨e, h2, h3⟩ := this ⟨k, by omega⟩
  exact ⟨e, by rw [getI_nat]; exact h2, h3⟩
theorem and_lt (u : Int) : 0 ≤ bitI .and .u64 u 15 ∧ bitI .and .u64 u 15 < 16 := by
  unfold bitI
  simp only
  rw [IntKind.wrap_u64]
  have h := Nat.and_le_right (n := (BitVec.ofInt IntKind.u64.bits u).toNat) (m := (BitVec.ofInt IntKind.u64.bits 15).toNat)
  have h15 : (BitVec.ofInt IntKind.u64.bits 15).toNat = 15 := by decide
  rw [h15] at h
  have e : (BitVec.ofInt IntKind.u64.bits u &&& BitVec.ofInt IntKind.u64.bits 15).toNat = (BitVec.ofInt IntKind.u64.bits u).toNat &&& 15 := by rw [BitVec.toNat_and, h15]
  rw [e]
  omega
/-- The digits that are laid from a place on. -/
structure Laid (arr : List UInt8) (k : Nat) : Prop where
  len : arr.length = 65
  hex : ∀ j, 65 - k ≤ j → j < 65 → ∃ b, arr[j]? = some b ∧ hexB b = true
theorem Laid.set {arr : List UInt8} {k : Nat} {e : UInt8} (h : Laid arr k) (hk : k ≤ 64) (he : hexB e = true) : Laid (arr.set (64 - k) e) (k + 1) := by
  refine ⟨by simp [h.len], fun j h1 h2 => ?_⟩
  have := h.len
  by_cases hj : 64 - k = j
  · exact ⟨e, by rw [List.getElem?_set, if_pos hj, if_pos (by omega)], he⟩
  · obtain ⟨b, h3, h4⟩ := h.hex j (by omega) h2
    exact ⟨b, by rw [List.getElem?_set, if_neg hj]; exact h3, h4⟩
theorem i_dec (k : Nat) (hk : k ≤ 64) : IntKind.i64.wrap (((65 - k : Nat) : Int) - 1) = ((64 - k : Nat) : Int) := by rw [wrap64 _ (by omega) (by omega)]; omega
theorem fmt_loop {f : Int × List UInt8 × Int → Option ((Int × List UInt8 × Int) ⊕ ((Int × List UInt8 × Int) ⊕ (List UInt8 × List UInt8)))}
    (hf : ∀ (u : Int) (arr : List UInt8) (i : Int), f (u, arr, i) = bif decide (16 ≤ u) then (getI dig36 (bitI .and .u64 u 15)).bind fun e => thenO (inO (IntKind.i64.wrap (i - 1)) 65) (arr[(IntKind.i64.wrap (i - 1)).toNat]?.bind fun _ => some (.inl (u / 2 ^ 4, arr.set (IntKind.i64.wrap (i - 1)).toNat e, IntKind.i64.wrap (i - 1)))) else some (.inr (.inl (u, arr, i)))) :
    ∀ (n k : Nat) (u : Int) (arr : List UInt8), k + n = 15 → 0 ≤ u → u < 16 ^ (n + 1) → Laid arr k → ∃ u' arr' k', loopC f (u, arr, ((65 - k : Nat) : Int)) = some (.inl (u', arr', ((65 - k' : Nat) : Int))) ∧ k' ≤ 15 ∧ 0 ≤ u' ∧ u' < 16 ∧ Laid arr' k' := by
  intro n
  induction n with
  | zero =>
    intro k u arr hk h0 h1 hL
    refine ⟨u, arr, k, ?_, by omega, h0, by simpa using h1, hL⟩
    rw [loopC_eq, hf, decide_eq_false (by simp at h1; omega)]
    rfl
  | succ n ih =>
    intro k u arr hk h0 h1 hL
    by_cases hu : 16 ≤ u
    · obtain ⟨e, he, hx⟩ := dig_hex _ (and_lt u).1 (and_lt u).2
      have hl := hL.len
      obtain ⟨b, hb⟩ := get_lt (show 64 - k < arr.length by omega)
      have hin : inO (((64 - k : Nat) : Int)) 65 = some () := by unfold inO; rw [if_pos (by omega)]
      have h16 : u / 2 ^ 4 < 16 ^ (n + 1) := by
        have : (2 : Int) ^ 4 = 16 := by decide
        rw [this]
        refine Int.ediv_lt_of_lt_mul (by decide) ?_
        rw [← Int.pow_succ]; exact h1
      obtain ⟨u', arr', k', h2, h3⟩ := ih (k + 1) (u / 2 ^ 4) (arr.set (64 - k) e) (by omega) (Int.ediv_nonneg h0 (by decide)) h16 (hL.set (by omega) hx)
      refine ⟨u', arr', k', ?_, h3⟩
      rw [loopC_eq, hf, decide_eq_true hu]
      simp only [cond_true, he, Option.bind_some, i_dec k (by omega), hin, thenO_some, Int.toNat_natCast, hb]
      rw [show (65 - (k + 1)) = 64 - k by omega] at h2
      exact h2
    · refine ⟨u, arr, k, ?_, by omega, h0, by omega, hL⟩
      rw [loopC_eq, hf, decide_eq_false hu]
      rfl
theorem fmt_use {F : Int × List UInt8 × Int → Option ((Int × List UInt8 × Int) ⊕ ((Int × List UInt8 × Int) ⊕ (List UInt8 × List UInt8)))} {s0 : Int × List UInt8 × Int} {K : Int × List UInt8 × Int → Option (List UInt8 × List UInt8)} {Q : List UInt8 → Prop}
    (hl : ∃ u' arr' k', loopC F s0 = some (.inl (u', arr', ((65 - k' : Nat) : Int))) ∧ k' ≤ 15 ∧ 0 ≤ u' ∧ u' < 16 ∧ Laid arr' k')
    (hK : ∀ (u' : Int) (arr' : List UInt8) (k' : Nat), k' ≤ 15 → 0 ≤ u' → u' < 16 → Laid arr' k' → ∃ x, K (u', arr', ((65 - k' : Nat) : Int)) = some x ∧ Q x.2) :
    ∃ s, ((((loopC F s0).bind (outK K)).bind fun x => some x.snd).bind fun x => some x) = some s ∧ Q s := by
  obtain ⟨u', arr', k', h1, h2, h3, h4, h5⟩ := hl
  obtain ⟨x, h6, h7⟩ := hK u' arr' k' h2 h3 h4 h5
  refine ⟨x.2, ?_, h7⟩
  rw [h1]
  simp only [Option.bind_some, outK, h6]
theorem fmt (u : Int) (h0 : 0 ≤ u) (h1 : u < 18446744073709551616) : ∃ s, m_strconv_FormatUint u 16 = some s ∧ s.length ≤ 16 ∧ ∀ b ∈ s, hexB b = true := by
  have hp : m_internal_strconv_isPowerOfTwo 16 = some true := by
    unfold m_internal_strconv_isPowerOfTwo sims_F1_0_0; dsimp only
    decide
  have ht : m_math_bits_TrailingZeros 16 = some 4 := by
    unfold m_math_bits_TrailingZeros sims_F1_0_0; dsimp only
    rfl
  have w16 : IntKind.u64.wrap 16 = 16 := by decide
  have w15 : IntKind.u64.wrap (16 - 1) = 15 := by decide
  have w4 : IntKind.u64.wrap 4 = 4 := by decide
  have hs : shO IntKind.u64 4 = some () := by decide
  unfold m_strconv_FormatUint sims_F1_3_0; dsimp only
  unfold m_internal_strconv_FormatUint sims_F1_2_0; dsimp only
  unfold m_internal_strconv_formatBits sims_F1_1_0; dsimp only
  simp only [w16, w15, hp, ht, Option.bind_some, orO_some, w4, hs, thenO_some]
  rw [show decide ((16 : Int) = 10) = false from rfl, show (decide ((16 : Int) < 2) || false || decide ((36 : Int) < 16)) = false from rfl]
  simp only [cond_false, cond_true]
  have hL : Laid (List.replicate 65 0) 0 := ⟨by simp, fun j h2 h3 => by omega⟩
  refine fmt_use (Q := fun s => s.length ≤ 16 ∧ ∀ b ∈ s, hexB b = true) (fmt_loop (fun u arr i => rfl) 15 0 u (List.replicate 65 0) rfl h0 (by simpa using h1) hL) ?_
  intro u' arr' k' h2 h3 h4 h5
  obtain ⟨e, he, hx⟩ := dig_hex u' h3 h4
  have hl := h5.len
  obtain ⟨b, hb⟩ := get_lt (show 64 - k' < arr'.length by omega)
  have hin : inO (((64 - k' : Nat) : Int)) 65 = some () := by unfold inO; rw [if_pos (by omega)]
  have hin2 : inO (((64 - k' : Nat) : Int)) (65 + 1) = some () := by unfold inO; rw [if_pos (by omega)]
  have hln : lnO (arr'.set (64 - k') e).length 65 = some () := by unfold lnO; rw [if_pos (by simp [hl])]
  have he' : getI [48, 49, 50, 51, 52, 53, 54, 55, 56, 57, 97, 98, 99, 100, 101, 102, 103, 104, 105, 106, 107, 108, 109, 110, 111, 112, 113, 114, 115, 116, 117, 118, 119, 120, 121, 122] u' = some e := he
  have hL2 := h5.set (by omega) hx
  refine ⟨([], (arr'.set (64 - k') e).drop (64 - k')), ?_, ?_, fun q hq => ?_⟩
  · simp only [he', Option.bind_some, i_dec k' (by omega), hin, hin2, thenO_some, Int.toNat_natCast, hb, hln]
  · simp [hl]; omega
  · obtain ⟨j, hj⟩ := List.getElem?_of_mem hq
    rw [List.getElem?_drop] at hj
    have hlt := (List.getElem?_eq_some_iff.1 hj).1
    rw [hL2.len] at hlt
    obtain ⟨b2, h6, h7⟩ := hL2.hex (64 - k' + j) (by omega) hlt
    rw [hj] at h6
    cases h6
    exact h7
/-! ### Digests -/
def stepH (h : Int) (e : UInt8) : Int := IntKind.u64.wrap (bitI BinOp.xor IntKind.u64 h (IntKind.u64.wrap (e.toNat : Int)) * 1099511628211)
def hashF (b : List UInt8) : Int := b.foldl stepH 14695981039346656037
theorem wrap_rng (n : Int) : 0 ≤ IntKind.u64.wrap n ∧ IntKind.u64.wrap n < 18446744073709551616 := by rw [IntKind.wrap_u64]; omega
theorem hash_rng (b : List UInt8) : 0 ≤ hashF b ∧ hashF b < 18446744073709551616 := by
  have : ∀ (l : List UInt8) (h : Int), 0 ≤ h ∧ h < 18446744073709551616 → 0 ≤ l.foldl stepH h ∧ l.foldl stepH h < 18446744073709551616 := by
    intro l
    induction l with
    | nil => intro h hh; exact hh
    | cons e l ih => intro h _; exact ih _ (wrap_rng _)
  exact this b _ (by decide)
noncomputable def dg (b : List UInt8) : List UInt8 := (m_partner_Digest b).getD []
theorem dg_eq (b : List UInt8) (hb : b.length ≤ 9223372036854775807) : m_partner_Digest b = some (dg b) ∧ (dg b).length = 16 ∧ ∀ x ∈ dg b, hexB x = true := by
  have : ∃ s, m_partner_Digest b = some s ∧ s.length = 16 ∧ ∀ x ∈ s, hexB x = true := by
    obtain ⟨s, h1, h2, h3⟩ := fmt (hashF b) (hash_rng b).1 (hash_rng b).2
    refine ⟨Lib.repeatL [48] (16 - s.length) ++ s, ?_, ?_, fun x hx => ?_⟩
    · unfold m_partner_Digest sims_G1_0_0; dsimp only
      refine bind_loop (a := .inl (hashF b, (b.length : Int))) (loop_pre b (fun i q => (hashF q, (i : Int))) (fun i e he => ?_) (by simp only [lt_dec_self, cond_false]; rfl)) ?_
      · have hi := get_le he
        simp only [lt_dec hi, cond_true, getI_nat, he, Option.bind_some, wrapN i (by omega)]
        simp only [hashF, List.foldl_append, List.foldl_cons, List.foldl_nil]
        rfl
      · have hr : m_strings_Repeat [48] (((16 - s.length : Nat)) : Int) = some (Lib.repeatL [48] (16 - s.length)) := by
          unfold m_strings_Repeat
          rw [if_pos ⟨by omega, by omega, by decide⟩, Int.toNat_natCast]
        simp only [outK, h1, Option.bind_some]
        rw [wrap64 _ (by omega) (by omega), show (16 : Int) - (s.length : Int) = ((16 - s.length : Nat) : Int) by omega, hr]
        simp only [Option.bind_some]
        rw [thenO_some (strO_some.2 (by rw [Lib.repeatL_length]; simp; omega))]
    · rw [List.length_append, Lib.repeatL_length]; simp; omega
    · rcases List.mem_append.1 hx with hx | hx
      · have := Lib.repeatL_replicate 48 1 (16 - s.length)
        simp only [List.replicate_succ, List.replicate_zero] at this
        rw [this] at hx
        rw [(List.mem_replicate.1 hx).2]; decide
      · exact h3 x hx
  obtain ⟨s, h1, h2⟩ := this
  unfold dg
  rw [h1]
  exact ⟨rfl, h2⟩
end Go.Proofs.YthcfbglbjipdaaaDoor

/-
  Plain laws of the archive: DeskHeadsStay.
-/
namespace Go.Proofs.YthcfbglbjipdaaaDoor
set_option linter.unusedSimpArgs false
set_option linter.unusedVariables false
open Go.RowKit

abbrev Rc := Tapi_Record
theorem dropWhile_nilP {p : UInt8 → Bool} : ∀ {l : List UInt8}, l.dropWhile p = [] ↔ ∀ x ∈ l, p x = true
  | [] => by simp
  | a :: l => by
    rw [List.dropWhile_cons]
    by_cases h : p a = true
    · simp [h, dropWhile_nilP (l := l)]
    · simp [h]
theorem trim_allP (l cs : List UInt8) (h : ∀ x ∈ l, cs.contains x = true) : Lib.trimS l cs = [] := by
  unfold Lib.trimS Lib.trimLeftS Lib.trimRightS
  have h1 : List.dropWhile (fun x => cs.contains x) l.reverse = [] := dropWhile_nilP.2 fun x hx => h x (by simpa using hx)
  rw [h1]; rfl
theorem name_some (l : List UInt8) (hl : l.length ≤ 9223372036854775807) : ∃ b, m_kit_IsName l = some b ∧ (b = true → l.length ≤ 40) := by
  unfold m_kit_IsName sims_G1_0_0; dsimp only
  cases l with
  | nil => exact ⟨false, rfl, fun h => by cases h⟩
  | cons b l =>
    have hg : getI (b :: l) 0 = some b := rfl
    simp only [hg, Option.bind_some, orO_some]
    have ht : ∃ t, m_strings_Trim (b :: l) [97, 98, 99, 100, 101, 102, 103, 104, 105, 106, 107, 108, 109, 110, 111, 112, 113, 114, 115, 116, 117, 118, 119, 120, 121, 122, 48, 49, 50, 51, 52, 53, 54, 55, 56, 57, 45] = some t := by
      unfold m_strings_Trim
      rw [if_pos ⟨hl, by decide, by decide⟩]
      exact ⟨_, rfl⟩
    obtain ⟨t, ht⟩ := ht
    rw [ht]
    cases hv : (decide (((b :: l).length : Int) < 1) || decide ((40 : Int) < ((b :: l).length : Int)) || decide ((b.toNat : Int) < 97) || decide ((122 : Int) < (b.toNat : Int))) with
    | true => exact ⟨false, rfl, fun h => by cases h⟩
    | false =>
      refine ⟨decide (t = []), rfl, fun _ => ?_⟩
      simp only [Bool.or_eq_false_iff, decide_eq_false_iff_not] at hv
      omega
theorem inb_some (l : List UInt8) (lo hi : UInt8) (hl : l.length ≤ 1000000) : ∃ b, m_kit_InBytes l lo hi = some b := by
  unfold m_kit_InBytes sims_G1_0_0; dsimp only
  have key : ∀ (v : Int ⊕ Bool), ∃ b, outK (fun _ => some true) v = some b := fun v => by cases v <;> exact ⟨_, rfl⟩
  obtain ⟨b, hb⟩ := key ((firstS (fun i => match l[i]? with | some e => bif (decide ((e.toNat : Int) < (lo.toNat : Int)) || decide ((hi.toNat : Int) < (e.toNat : Int))) then some (Sum.inr false) else none | none => none) 0 l.length).getD (.inl (l.length : Int)))
  refine ⟨b, bind_loop (loop_first (fun i => (i : Int)) l.length (fun i => match l[i]? with | some e => bif (decide ((e.toNat : Int) < (lo.toNat : Int)) || decide ((hi.toNat : Int) < (e.toNat : Int))) then some (Sum.inr false) else none | none => none) (fun i hi2 hn => ?_) (fun i a hi2 ha => ?_) ?_) hb⟩
  · obtain ⟨e, he⟩ := get_lt hi2
    simp only [he] at hn
    simp only [lt_dec hi2, cond_true, getI_nat, he, Option.bind_some, orO_some, wrapN i (by omega)]
    cases hc : (decide ((e.toNat : Int) < (lo.toNat : Int)) || decide ((hi.toNat : Int) < (e.toNat : Int))) with
    | true => rw [hc] at hn; cases hn
    | false => rfl
  · obtain ⟨e, he⟩ := get_lt hi2
    simp only [he] at ha
    simp only [lt_dec hi2, cond_true, getI_nat, he, Option.bind_some, orO_some]
    cases hc : (decide ((e.toNat : Int) < (lo.toNat : Int)) || decide ((hi.toNat : Int) < (e.toNat : Int))) with
    | true => rw [hc] at ha; cases ha; rfl
    | false => rw [hc] at ha; cases ha
  · simp only [lt_dec_self, cond_false]; rfl
theorem inb_nil (lo hi : UInt8) : m_kit_InBytes [] lo hi = some true := by
  unfold m_kit_InBytes sims_G1_0_0; dsimp only
  rw [loopC_eq]; rfl
noncomputable def nmB (l : List UInt8) : Bool := (m_kit_IsName l).getD false
noncomputable def inB (l : List UInt8) (lo : UInt8) : Bool := (m_kit_InBytes l lo (UInt8.ofNat (Int.toNat 126))).getD false
def momB (t : Int) : Bool := !(decide (t < 0) || decide (1000000000000000 < t))
theorem nm_eq (l : List UInt8) (hl : l.length ≤ 9223372036854775807) : m_kit_IsName l = some (nmB l) := by
  obtain ⟨b, h, _⟩ := name_some l hl
  unfold nmB; rw [h]; rfl
theorem nm_len {l : List UInt8} (hl : l.length ≤ 9223372036854775807) (h : nmB l = true) : l.length ≤ 40 := by
  obtain ⟨b, h1, h2⟩ := name_some l hl
  unfold nmB at h; rw [h1] at h
  exact h2 h
theorem in_eq (l : List UInt8) (lo : UInt8) (hl : l.length ≤ 1000000) : m_kit_InBytes l lo (UInt8.ofNat (Int.toNat 126)) = some (inB l lo) := by
  obtain ⟨b, h⟩ := inb_some l lo (UInt8.ofNat (Int.toNat 126)) hl
  unfold inB; rw [h]; rfl
theorem mom_eq (t : Int) : m_kit_IsMoment t = some (momB t) := by
  unfold m_kit_IsMoment sims_G1_1_0; dsimp only
  unfold m_kit_Outside sims_G1_0_0; dsimp only
  simp only [orO_some, Option.bind_some]; rfl
noncomputable def keyBad (k : List UInt8) : Bool := decide ((k.length : Int) < 1) || decide (40 < (k.length : Int)) || !inB k (UInt8.ofNat (Int.toNat 33))
noncomputable def ffF (t : Int) (k key text : List UInt8) : Int :=
  bif !momB t then 1 else bif !nmB k then 5 else bif keyBad key then 3 else bif decide (2000 < (text.length : Int)) then 2 else bif !inB text (UInt8.ofNat (Int.toNat 32)) then 3 else 0
theorem ff_eq (t : Int) (k key text : List UInt8) (hk : k.length ≤ 9223372036854775807) : m_desk_fieldsFault t k key text = some (ffF t k key text) := by
  unfold m_desk_fieldsFault sims_G1_2_0; dsimp only
  simp only [mom_eq, nm_eq k hk, Option.bind_some, orO_some]
  unfold ffF keyBad
  cases momB t with
  | false => rfl
  | true =>
  cases nmB k with
  | false => rfl
  | true =>
  simp only [Bool.not_true, cond_false]
  cases hv : (decide ((key.length : Int) < 1) || decide (40 < (key.length : Int))) with
  | true => rfl
  | false =>
  have hkl : key.length ≤ 1000000 := by simp only [Bool.or_eq_false_iff, decide_eq_false_iff_not] at hv; omega
  rw [in_eq key _ hkl]
  simp only [Option.bind_some, orO_some, Bool.false_or]
  cases !inB key (UInt8.ofNat (Int.toNat 33)) with
  | true => rfl
  | false =>
  simp only [cond_false]
  cases ht : decide (2000 < (text.length : Int)) with
  | true => rfl
  | false =>
  have htl : text.length ≤ 1000000 := by have := of_decide_eq_false ht; omega
  rw [in_eq text _ htl]
  simp only [Option.bind_some, cond_false]
  cases inB text (UInt8.ofNat (Int.toNat 32)) <;> rfl
structure FfOk (t : Int) (k key text : List UInt8) : Prop where
  mom : momB t = true
  nm : nmB k = true
  key : keyBad key = false
  len : decide (2000 < (text.length : Int)) = false
  inb : inB text (UInt8.ofNat (Int.toNat 32)) = true
theorem ff_zero {t : Int} {k key text : List UInt8} : ffF t k key text = 0 ↔ FfOk t k key text := by
  unfold ffF
  constructor
  · intro h
    cases h1 : momB t with
    | false => rw [h1] at h; cases h
    | true =>
    cases h2 : nmB k with
    | false => rw [h1, h2] at h; cases h
    | true =>
    cases h3 : keyBad key with
    | true => rw [h1, h2, h3] at h; cases h
    | false =>
    cases h4 : decide (2000 < (text.length : Int)) with
    | true => rw [h1, h2, h3, h4] at h; cases h
    | false =>
    cases h5 : inB text (UInt8.ofNat (Int.toNat 32)) with
    | false => rw [h1, h2, h3, h4, h5] at h; cases h
    | true => exact ⟨h1, h2, h3, h4, h5⟩
  · rintro ⟨h1, h2, h3, h4, h5⟩
    rw [h1, h2, h3, h4, h5]; rfl
theorem inB_nil (lo : UInt8) : inB [] lo = true := by unfold inB; rw [inb_nil]; rfl
def digB (s : List UInt8) : Bool := decide ((s.length : Int) = 16) && decide (Lib.trimS s hexSet = [])
theorem isDig_eq (s : List UInt8) (hs : s.length ≤ 9223372036854775807) : m_desk_isDigest s = some (digB s) := by
  have ht : m_strings_Trim s hexSet = some (Lib.trimS s hexSet) := by
    unfold m_strings_Trim
    rw [if_pos ⟨hs, by decide, by decide⟩]
  have hu : ([48, 49, 50, 51, 52, 53, 54, 55, 56, 57, 97, 98, 99, 100, 101, 102] : List UInt8) = hexSet := rfl
  unfold m_desk_isDigest sims_G1_0_0; dsimp only
  rw [hu, ht]
  simp only [Option.bind_some, andO_some, digB]
theorem dig_of {s : List UInt8} (h1 : s.length = 16) (h2 : ∀ x ∈ s, hexB x = true) : digB s = true := by
  unfold digB
  rw [decide_eq_true (by omega), decide_eq_true (trim_allP s hexSet h2)]; rfl
theorem dig_len {s : List UInt8} (h : digB s = true) : s.length = 16 := by
  unfold digB at h
  simp only [Bool.and_eq_true, decide_eq_true_eq] at h
  omega
structure RecOk (r : Rc) : Prop where
  kind : r.fKind.length ≤ 9223372036854775807
  key : r.fKey.length ≤ 9223372036854775807
  dig : r.fDigest.length ≤ 9223372036854775807
  text : r.fText.length ≤ 9223372036854775807
noncomputable def rfF (r : Rc) : Int :=
  if ffF r.fTime r.fKind r.fKey r.fText = 0 then (bif r.fDropped && !decide (r.fText = []) then 3 else bif !digB r.fDigest then 3 else bif !r.fDropped && !decide (dg r.fText = r.fDigest) then 15 else 0) else ffF r.fTime r.fKind r.fKey r.fText
theorem rf_eq (r : Rc) (h : RecOk r) : m_desk_recordFault r = some (rfF r) := by
  unfold m_desk_recordFault sims_G1_3_0; dsimp only
  rw [ff_eq _ _ _ _ h.kind, isDig_eq _ h.dig, (dg_eq _ h.text).1]
  simp only [Option.bind_some, andO_some]
  unfold rfF
  by_cases hf : ffF r.fTime r.fKind r.fKey r.fText = 0
  · rw [if_pos hf, decide_eq_true hf]
    simp only [Bool.not_true, cond_false]
    cases r.fDropped && !decide (r.fText = []) with
    | true => rfl
    | false =>
    cases digB r.fDigest with
    | false => rfl
    | true =>
    cases !r.fDropped && !decide (dg r.fText = r.fDigest) <;> rfl
  · rw [if_neg hf, decide_eq_false hf]; rfl
structure RfOk (r : Rc) : Prop where
  ff : FfOk r.fTime r.fKind r.fKey r.fText
  drop : (r.fDropped && !decide (r.fText = [])) = false
  dig : digB r.fDigest = true
  dam : (!r.fDropped && !decide (dg r.fText = r.fDigest)) = false
theorem rf_zero {r : Rc} : rfF r = 0 ↔ RfOk r := by
  unfold rfF
  constructor
  · intro h
    by_cases hf : ffF r.fTime r.fKind r.fKey r.fText = 0
    · rw [if_pos hf] at h
      cases h1 : (r.fDropped && !decide (r.fText = [])) with
      | true => rw [h1] at h; cases h
      | false =>
      cases h2 : digB r.fDigest with
      | false => rw [h1, h2] at h; cases h
      | true =>
      cases h3 : (!r.fDropped && !decide (dg r.fText = r.fDigest)) with
      | true => rw [h1, h2, h3] at h; cases h
      | false => exact ⟨ff_zero.1 hf, h1, h2, h3⟩
    · rw [if_neg hf] at h; exact absurd h hf
  · rintro ⟨h0, h1, h2, h3⟩
    rw [if_pos (ff_zero.2 h0), h1, h2, h3]; rfl
/-! ### Archives -/
def caAt (rf : Rc → Int) (l : List Rc) (i : Nat) : Option Int := match l[i]? with
  | some r => if rf r = 0 then (match l[i - 1]? with | some q => bif decide (0 < i) && decide (r.fTime < q.fTime) then some 8 else none | none => none) else some (rf r)
  | none => none
noncomputable def caF (l : List Rc) : Int := bif decide (2000 < (l.length : Int)) then 2 else (firstS (caAt rfF l) 0 l.length).getD 0
theorem firstS_map {A B : Type} (h : A → B) (g : Nat → Option A) : ∀ (n i : Nat), firstS (fun j => (g j).map h) i n = (firstS g i n).map h
  | 0, _ => rfl
  | n + 1, i => by
    simp only [firstS]
    cases g i with
    | some a => rfl
    | none => exact firstS_map h g n (i + 1)
theorem lt_int (i : Nat) : decide ((0 : Int) < (i : Int)) = decide (0 < i) := by
  by_cases h : 0 < i
  · rw [decide_eq_true h, decide_eq_true (by omega)]
  · rw [decide_eq_false h, decide_eq_false (by omega)]
theorem prev_eq {l : List Rc} {i : Nat} {r : Rc} (hr : l[i]? = some r) (hl : l.length ≤ 2000) : ∃ q, l[i - 1]? = some q ∧ (andO (decide ((0 : Int) < (i : Int))) ((getI l (IntKind.i64.wrap ((i : Int) - 1))).bind fun e => some (decide (r.fTime < e.fTime)))) = some (decide (0 < i) && decide (r.fTime < q.fTime)) := by
  have hi := get_le hr
  obtain ⟨q, hq⟩ := get_lt (show i - 1 < l.length by omega)
  refine ⟨q, hq, ?_⟩
  rw [lt_int]
  by_cases hz : 0 < i
  · rw [wrap64 _ (by omega) (by omega), show (i : Int) - 1 = ((i - 1 : Nat) : Int) by omega, getI_nat, hq]
    simp only [Option.bind_some, andO_some]
  · rw [decide_eq_false hz]; rfl
theorem ca_eq (l : List Rc) (h : ∀ r ∈ l, RecOk r) : m_desk_CheckArchive l = some (caF l) := by
  unfold m_desk_CheckArchive sims_G1_4_0; dsimp only
  unfold caF
  cases hl : decide (2000 < (l.length : Int)) with
  | true => rfl
  | false =>
  have hl2 : l.length ≤ 2000 := by have := of_decide_eq_false hl; omega
  simp only [cond_false]
  refine bind_loop (loop_first (z := .inl (l.length : Int)) (fun i => (i : Int)) l.length (fun i => (caAt rfF l i).map .inr) (fun i hi hn => ?_) (fun i a hi ha => ?_) (by simp only [lt_dec_self, cond_false]; rfl)) ?_
  · obtain ⟨r, hr⟩ := get_lt hi
    obtain ⟨q, hq, hp⟩ := prev_eq hr hl2
    simp only [lt_dec hi, cond_true, getI_nat, hr, Option.bind_some, rf_eq r (h r (List.mem_of_getElem? hr))]
    have hn : caAt rfF l i = none := by simpa using hn
    unfold caAt at hn
    rw [hr, hq] at hn
    simp only at hn
    by_cases hf : rfF r = 0
    · rw [if_pos hf] at hn
      rw [decide_eq_true hf]
      simp only [Bool.not_true, cond_false]
      rw [hp]
      cases hc : (decide (0 < i) && decide (r.fTime < q.fTime)) with
      | true => rw [hc] at hn; cases hn
      | false => simp only [Option.bind_some, cond_false, wrapN i (by omega)]
    · rw [if_neg hf] at hn; cases hn
  · obtain ⟨r, hr⟩ := get_lt hi
    obtain ⟨q, hq, hp⟩ := prev_eq hr hl2
    simp only [lt_dec hi, cond_true, getI_nat, hr, Option.bind_some, rf_eq r (h r (List.mem_of_getElem? hr))]
    unfold caAt at ha
    rw [hr, hq] at ha
    simp only at ha
    by_cases hf : rfF r = 0
    · rw [if_pos hf] at ha
      rw [decide_eq_true hf]
      simp only [Bool.not_true, cond_false]
      rw [hp]
      cases hc : (decide (0 < i) && decide (r.fTime < q.fTime)) with
      | true => rw [hc] at ha; cases ha; rfl
      | false => rw [hc] at ha; cases ha
    · rw [if_neg hf] at ha
      rw [decide_eq_false hf]
      cases ha; rfl
  · rw [firstS_map]
    cases firstS (caAt rfF l) 0 l.length <;> rfl
structure CaOk (l : List Rc) : Prop where
  len : l.length ≤ 2000
  rf : ∀ r ∈ l, RfOk r
  ord : ∀ (i : Nat) (r q : Rc), 0 < i → l[i]? = some r → l[i - 1]? = some q → ¬ r.fTime < q.fTime
theorem ca_zero {l : List Rc} : caF l = 0 ↔ CaOk l := by
  unfold caF
  constructor
  · intro h
    cases hl : decide (2000 < (l.length : Int)) with
    | true => rw [hl] at h; cases h
    | false =>
    have hl2 : l.length ≤ 2000 := by have := of_decide_eq_false hl; omega
    rw [hl] at h
    simp only [cond_false] at h
    rcases firstS_cases (caAt rfF l) l.length with ⟨h1, h2⟩ | ⟨k, a, hk, _, h3, h4⟩
    · have hat : ∀ (i : Nat) (r : Rc), l[i]? = some r → rfF r = 0 ∧ ∀ q, 0 < i → l[i - 1]? = some q → ¬ r.fTime < q.fTime := by
        intro i r hr
        have := h2 i (get_le hr)
        obtain ⟨q, hq, _⟩ := prev_eq hr hl2
        unfold caAt at this
        rw [hr, hq] at this
        simp only at this
        by_cases hf : rfF r = 0
        · rw [if_pos hf] at this
          refine ⟨hf, fun q' h0 hq' ht => ?_⟩
          rw [hq] at hq'; cases hq'
          rw [decide_eq_true h0, decide_eq_true ht] at this; cases this
        · rw [if_neg hf] at this; cases this
      refine ⟨hl2, fun r hr => ?_, fun i r q h0 hr hq => (hat i r hr).2 q h0 hq⟩
      obtain ⟨i, hi⟩ := List.getElem?_of_mem hr
      exact rf_zero.1 (hat i r hi).1
    · rw [h4] at h
      simp only [Option.getD_some] at h
      subst h
      exfalso
      obtain ⟨r, hr⟩ := get_lt hk
      obtain ⟨q, hq, _⟩ := prev_eq hr hl2
      unfold caAt at h3
      rw [hr, hq] at h3
      simp only at h3
      by_cases hf : rfF r = 0
      · rw [if_pos hf] at h3
        cases hc : (decide (0 < k) && decide (r.fTime < q.fTime)) with
        | true => rw [hc] at h3; cases h3
        | false => rw [hc] at h3; cases h3
      · rw [if_neg hf] at h3
        exact hf (Option.some.inj h3)
  · rintro ⟨h1, h2, h3⟩
    rw [decide_eq_false (by omega)]
    simp only [cond_false]
    rw [firstS_none (fun i hi => ?_)]
    · rfl
    · obtain ⟨r, hr⟩ := get_lt hi
      obtain ⟨q, hq, _⟩ := prev_eq hr h1
      unfold caAt
      rw [hr, hq]
      simp only
      rw [if_pos (rf_zero.2 (h2 r (List.mem_of_getElem? hr)))]
      by_cases hz : 0 < i
      · rw [decide_eq_false (h3 i r q hz hr hq), Bool.and_false]; rfl
      · rw [decide_eq_false hz]; rfl
end Go.Proofs.YthcfbglbjipdaaaDoor

/-
  Plain laws of the archive: heads, and DeskHeadsStay.
-/
namespace Go.Proofs.YthcfbglbjipdaaaDoor
set_option linter.unusedSimpArgs false
set_option linter.unusedVariables false
open Go.RowKit

def bodyF (r : Rc) : List UInt8 := Lib.itoa r.fTime ++ [32] ++ r.fKind ++ [32] ++ r.fKey ++ [32] ++ r.fDigest
theorem rf_lens {r : Rc} (h : RecOk r) (k : RfOk r) : (Lib.itoa r.fTime).length ≤ 21 ∧ r.fKind.length ≤ 40 ∧ r.fKey.length ≤ 40 ∧ r.fDigest.length = 16 ∧ -9223372036854775808 ≤ r.fTime ∧ r.fTime ≤ 9223372036854775807 := by
  have h1 := k.ff.mom
  unfold momB at h1
  simp only [Bool.not_eq_true', Bool.or_eq_false_iff, decide_eq_false_iff_not] at h1
  have h2 := k.ff.key
  unfold keyBad at h2
  simp only [Bool.or_eq_false_iff, decide_eq_false_iff_not] at h2
  exact ⟨Lib.itoa_length_le r.fTime (by omega) (by omega), nm_len h.kind k.ff.nm, by omega, dig_len k.dig, by omega, by omega⟩
theorem body_eq {r : Rc} (h : RecOk r) (k : RfOk r) : m_desk_body r = some (bodyF r) ∧ (bodyF r).length ≤ 200 := by
  obtain ⟨h1, h2, h3, h4, h5, h6⟩ := rf_lens h k
  constructor
  · unfold m_desk_body sims_G1_0_0; dsimp only
    have hi : m_strconv_Itoa r.fTime = some (Lib.itoa r.fTime) := by unfold m_strconv_Itoa; rw [if_pos ⟨h5, h6⟩]
    rw [hi]
    simp only [Option.bind_some]
    iterate 6 rw [thenO_some (strO_some.2 (by simp only [List.length_append, List.length_cons, List.length_nil]; omega))]
    rfl
  · unfold bodyF
    simp only [List.length_append, List.length_cons, List.length_nil]; omega
noncomputable def hdF (l : List Rc) : List UInt8 := l.foldl (fun h r => dg (h ++ [32] ++ bodyF r)) (Lib.repeatL [48] 16)
theorem hd_len : ∀ (l : List Rc), (∀ r ∈ l, (bodyF r).length ≤ 200) → (hdF l).length = 16 ∧ ∀ x ∈ hdF l, hexB x = true := by
  have : ∀ (l : List Rc) (s : List UInt8), s.length = 16 → (∀ x ∈ s, hexB x = true) → (∀ r ∈ l, (bodyF r).length ≤ 200) →
      (l.foldl (fun h r => dg (h ++ [32] ++ bodyF r)) s).length = 16 ∧ ∀ x ∈ l.foldl (fun h r => dg (h ++ [32] ++ bodyF r)) s, hexB x = true := by
    intro l
    induction l with
    | nil => intro s h1 h2 _; exact ⟨h1, h2⟩
    | cons r l ih =>
      intro s h1 h2 h3
      have hb := h3 r (by simp)
      obtain ⟨_, d2, d3⟩ := dg_eq (s ++ [32] ++ bodyF r) (by simp only [List.length_append, List.length_cons, List.length_nil]; omega)
      exact ih _ d2 d3 fun q hq => h3 q (by simp [hq])
  intro l h
  exact this l _ (by decide) (by decide) h
theorem hd_eq (l : List Rc) (h : ∀ r ∈ l, RecOk r) (k : ∀ r ∈ l, RfOk r) (hl : l.length ≤ 2000) : m_desk_headOf l = some (hdF l) := by
  have hb : ∀ r ∈ l, (bodyF r).length ≤ 200 := fun r hr => (body_eq (h r hr) (k r hr)).2
  have hr : m_strings_Repeat [48] 16 = some (Lib.repeatL [48] 16) := by
    unfold m_strings_Repeat
    rw [if_pos ⟨by decide, by decide, by decide⟩]; rfl
  unfold m_desk_headOf sims_G1_1_0; dsimp only
  rw [hr]
  simp only [Option.bind_some]
  refine bind_loop (a := .inl (hdF l, (l.length : Int))) (loop_pre l (fun i q => (hdF q, (i : Int))) (fun i e he => ?_) (by simp only [lt_dec_self, cond_false]; rfl)) rfl
  have hi := get_le he
  have hm := List.mem_of_getElem? he
  obtain ⟨b1, b2⟩ := body_eq (h e hm) (k e hm)
  have h16 := (hd_len (l.take i) fun q hq => hb q (List.mem_of_mem_take hq)).1
  simp only [lt_dec hi, cond_true, getI_nat, he, Option.bind_some, b1, wrapN i (by omega)]
  rw [thenO_some (strO_some.2 (by simp only [List.length_cons, List.length_nil]; omega)), thenO_some (strO_some.2 (by simp only [List.length_append, List.length_cons, List.length_nil]; omega))]
  rw [(dg_eq (hdF (l.take i) ++ [32] ++ bodyF e) (by simp only [List.length_append, List.length_cons, List.length_nil]; omega)).1]
  simp only [Option.bind_some]
  unfold hdF
  rw [List.foldl_append, List.foldl_cons, List.foldl_nil]
theorem sliceI_to (l : List Rc) (k : Nat) (h : k ≤ l.length) : sliceI l ((none : Option Int).getD 0) ((some (k : Int)).getD (l.length : Int)) = some (l.take k) := by
  simp only [Option.getD_none, Option.getD_some, sliceI]
  rw [if_pos ⟨by omega, by omega, by omega⟩]
  simp
theorem out_eq (n lo hi : Int) : m_kit_Outside n lo hi = some (decide (n < lo) || decide (hi < n)) := by
  unfold m_kit_Outside sims_G1_0_0; dsimp only
  simp only [orO_some, Option.bind_some]
theorem head_bad {l : List Rc} {n : Int} (h : ∀ r ∈ l, RecOk r) (hc : caF l ≠ 0) : m_desk_Head l n = some ([], caF l) := by
  unfold m_desk_Head sims_G1_5_0; dsimp only
  rw [ca_eq l h]
  simp only [Option.bind_some]
  rw [decide_eq_false hc]; rfl
theorem head_out {l : List Rc} {n : Int} (h : ∀ r ∈ l, RecOk r) (hc : caF l = 0) (ho : n < 0 ∨ (l.length : Int) < n) : m_desk_Head l n = some ([], 1) := by
  unfold m_desk_Head sims_G1_5_0; dsimp only
  rw [ca_eq l h, hc]
  simp only [Option.bind_some, decide_true, Bool.not_true, cond_false, out_eq]
  rw [show (decide (n < 0) || decide ((l.length : Int) < n)) = true by simpa using ho]; rfl
theorem head_ok {l : List Rc} {k : Nat} (h : ∀ r ∈ l, RecOk r) (hc : caF l = 0) (hk : k ≤ l.length) : m_desk_Head l (k : Int) = some (hdF (l.take k), 0) := by
  have hC := ca_zero.1 hc
  unfold m_desk_Head sims_G1_5_0; dsimp only
  rw [ca_eq l h, hc]
  simp only [Option.bind_some, decide_true, Bool.not_true, cond_false, out_eq]
  rw [show (decide ((k : Int) < 0) || decide ((l.length : Int) < (k : Int))) = false by simp; omega]
  simp only [cond_false]
  rw [sliceI_to l k hk]
  simp only [Option.bind_some]
  rw [hd_eq _ (fun r hr => h r (List.mem_of_mem_take hr)) (fun r hr => hC.rf r (List.mem_of_mem_take hr)) (by rw [List.length_take]; have := hC.len; omega)]
  rfl
theorem proves_ok {l : List Rc} {k : Nat} {s : List UInt8} (h : ∀ r ∈ l, RecOk r) (hc : caF l = 0) (hk : k ≤ l.length) (hs : hdF (l.take k) = s) (h16 : s.length = 16) (hx : ∀ x ∈ s, hexB x = true) : m_desk_Proves l (k : Int) s = some (true, 0) := by
  unfold m_desk_Proves sims_G1_6_0; dsimp only
  rw [head_ok h hc hk, isDig_eq s (by omega), dig_of h16 hx]
  simp only [Option.bind_some, decide_true, Bool.not_true, cond_false, hs]
/-! ### Dropped -/
def drF (b : Int) (r : Rc) : Rc := bif decide (r.fTime < b) then ⟨r.fTime, r.fKind, r.fKey, r.fDigest, true, []⟩ else r
theorem set_mid {α : Type} (A B : List α) (b c : α) {i : Nat} (hi : A.length = i) : (A ++ b :: B).set i c = A ++ c :: B := by
  subst hi; simp
theorem get_mid {α : Type} (A B : List α) (b : α) {i : Nat} (hi : A.length = i) : (A ++ b :: B)[i]? = some b := by
  subst hi; simp
theorem clone_eq (l : List Rc) (h : l.length ≤ 137438953472) : m_slices_Clone_interchange_api_Record_interchange_api_Record l = some l := if_pos h
theorem drop_eq {l : List Rc} {b : Int} (h : ∀ r ∈ l, RecOk r) (hc : caF l = 0) : m_desk_Dropped l b = some (bif decide (b < 0) || decide (2000000000000000 < b) then ([], 1) else (l.map (drF b), 0)) := by
  have hl := (ca_zero.1 hc).len
  unfold m_desk_Dropped sims_G2_0_0; dsimp only
  rw [ca_eq l h, hc]
  simp only [Option.bind_some, decide_true, Bool.not_true, cond_false, out_eq]
  cases (decide (b < 0) || decide (2000000000000000 < b)) with
  | true => rfl
  | false =>
  simp only [cond_false]
  rw [clone_eq l (by omega)]
  simp only [Option.bind_some]
  have key := loop_trace (f := fun s : List Rc × Int => bif decide (s.snd < (l.length : Int)) then (getI s.fst s.snd).bind fun e => s.fst[s.snd.toNat]?.bind fun e => bif decide (e.fTime < b) then
      (getI s.fst s.snd).bind fun e => s.fst[s.snd.toNat]?.bind fun e => (getI (s.fst.set s.snd.toNat (⟨e.fTime, e.fKind, e.fKey, e.fDigest, true, e.fText⟩ : Rc)) s.snd).bind fun e_1 =>
        (s.fst.set s.snd.toNat (⟨e.fTime, e.fKind, e.fKey, e.fDigest, true, e.fText⟩ : Rc))[s.snd.toNat]?.bind fun e => some (Sum.inl (s.fst.set s.snd.toNat (⟨e.fTime, e.fKind, e.fKey, e.fDigest, e.fDropped, []⟩ : Rc), IntKind.i64.wrap (s.snd + 1)))
      else some (Sum.inl (s.fst, IntKind.i64.wrap (s.snd + 1))) else inrO (R := (List Rc × Int) ⊕ (List Rc × Int)) (some (Sum.inl (s.fst, s.snd)))) (a := .inl (l.map (drF b), (l.length : Int))) (fun i => ((l.take i).map (drF b) ++ l.drop i, (i : Int))) l.length (fun i hi => ?_) ?_
  · simp only [List.take_zero, List.map_nil, List.nil_append, List.drop_zero] at key
    exact bind_loop key rfl
  · obtain ⟨r, hr⟩ := get_lt hi
    have hdr : l.drop i = r :: l.drop (i + 1) := by
      rw [List.drop_eq_getElem_cons hi]
      rw [List.getElem?_eq_getElem hi] at hr
      cases hr; rfl
    have hA : ((l.take i).map (drF b)).length = i := by rw [List.length_map, List.length_take]; omega
    have hnx : (l.take (i + 1)).map (drF b) ++ l.drop (i + 1) = (l.take i).map (drF b) ++ drF b r :: l.drop (i + 1) := by
      rw [List.take_add_one, hr]; simp
    simp only [lt_dec hi, cond_true, hdr, getI_nat, get_mid _ _ _ hA, Int.toNat_natCast, Option.bind_some, wrapN i (by omega), set_mid _ _ _ _ hA, hnx]
    unfold drF
    cases decide (r.fTime < b) <;> rfl
  · simp only [lt_dec_self, cond_false, List.take_length, List.drop_length, List.append_nil]; rfl
theorem dr_rec {b : Int} {r : Rc} (h : RecOk r) : RecOk (drF b r) := by
  unfold drF
  cases decide (r.fTime < b) with
  | true => exact ⟨h.kind, h.key, h.dig, by simp⟩
  | false => exact h
theorem dr_rf {b : Int} {r : Rc} (h : RfOk r) : RfOk (drF b r) := by
  unfold drF
  cases decide (r.fTime < b) with
  | true => exact ⟨⟨h.ff.mom, h.ff.nm, h.ff.key, by rfl, inB_nil _⟩, by simp, h.dig, by simp⟩
  | false => exact h
theorem dr_time (b : Int) (r : Rc) : (drF b r).fTime = r.fTime ∧ bodyF (drF b r) = bodyF r := by
  unfold drF
  cases decide (r.fTime < b) <;> exact ⟨rfl, rfl⟩
theorem dr_ca {b : Int} {l : List Rc} (h : CaOk l) : CaOk (l.map (drF b)) := by
  refine ⟨by rw [List.length_map]; exact h.len, fun r hr => ?_, fun i r q h0 hr hq => ?_⟩
  · obtain ⟨r', h1, rfl⟩ := List.mem_map.1 hr
    exact dr_rf (h.rf r' h1)
  · rw [List.getElem?_map] at hr hq
    obtain ⟨r', hr', rfl⟩ := Option.map_eq_some_iff.1 hr
    obtain ⟨q', hq', rfl⟩ := Option.map_eq_some_iff.1 hq
    rw [(dr_time b r').1, (dr_time b q').1]
    exact h.ord i r' q' h0 hr' hq'
theorem dr_hd (b : Int) (l : List Rc) : hdF (l.map (drF b)) = hdF l := by
  unfold hdF
  rw [List.foldl_map]
  simp only [(dr_time b _).2]
theorem rec_eq (t : Int) (k key text : List UInt8) (hk : k.length ≤ 9223372036854775807) (ht : text.length ≤ 9223372036854775807) :
    m_desk_RecordOf t k key text = some (if ffF t k key text = 0 then (⟨t, k, key, dg text, false, text⟩, 0) else (⟨0, [], [], [], false, []⟩, ffF t k key text)) := by
  unfold m_desk_RecordOf sims_G1_3_0; dsimp only
  rw [ff_eq _ _ _ _ hk]
  simp only [Option.bind_some]
  by_cases h : ffF t k key text = 0
  · rw [if_pos h, decide_eq_true h, (dg_eq text ht).1]; rfl
  · rw [if_neg h, decide_eq_false h]; rfl
theorem awake_eq : m_interchangelaw12_awake = some true := by
  have hc : caF [] = 0 := ca_zero.2 ⟨by simp, (fun r hr => by cases hr), (fun i r q _ hr => by simp at hr)⟩
  have := head_ok (l := []) (k := 0) (fun r hr => by cases hr) hc (Nat.le_refl _)
  unfold m_interchangelaw12_awake sims_G2_0_0; dsimp only
  rw [show (0 : Int) = ((0 : Nat) : Int) from rfl, this]
  rfl
theorem law_heads (l : List Rc) (n b : Int) (r : Rc) (h : ∀ q ∈ l, RecOk q) (hr : RecOk r) : m_interchangelaw12_DeskHeadsStay l n b r = some true := by
  have bad : ∀ f : Int, f ≠ 0 → m_desk_Head l n = some ([], f) → m_interchangelaw12_DeskHeadsStay l n b r = some true := fun f hf hh => by
    unfold m_interchangelaw12_DeskHeadsStay sims_G2_1_0; dsimp only
    rw [hh]
    simp only [Option.bind_some]
    rw [decide_eq_false hf]
    simp only [Bool.not_false, cond_true, decide_true, awake_eq, Option.bind_some, andO_some, Bool.and_self]
  by_cases hc : caF l = 0
  case neg => exact bad _ hc (head_bad h hc)
  by_cases ho : n < 0 ∨ (l.length : Int) < n
  · exact bad 1 (by decide) (head_out h hc ho)
  obtain ⟨k, rfl⟩ : ∃ k : Nat, n = (k : Int) := ⟨n.toNat, by omega⟩
  have hk : k ≤ l.length := by omega
  have hC := ca_zero.1 hc
  have hcl := hC.len
  obtain ⟨h16, hx⟩ := hd_len (l.take k) fun q hq => (body_eq (h q (List.mem_of_mem_take hq)) (hC.rf q (List.mem_of_mem_take hq))).2
  have hH := head_ok h hc hk
  have hP := proves_ok h hc hk rfl h16 hx
  have hD := drop_eq (b := b) h hc
  have hR := rec_eq r.fTime r.fKind r.fKey r.fText hr.kind hr.text
  have tail : ∀ x : Rc × Int, m_desk_RecordOf r.fTime r.fKind r.fKey r.fText = some x →
      ((orO (!decide (x.snd = 0)) ((m_desk_CheckArchive (l ++ [x.fst])).bind fun y => some !decide (y = 0))).bind fun v => bif v then m_interchangelaw12_awake.bind fun y => some y
        else (m_desk_Proves (l ++ [x.fst]) (k : Int) (hdF (l.take k))).bind fun y => (andO (decide (y.snd = 0)) (some y.fst)).bind fun v => (andO v (m_interchangelaw12_awake.bind fun y => some y)).bind fun v => some v) = some true := by
    intro x hx2
    rw [hR] at hx2
    by_cases hf : ffF r.fTime r.fKind r.fKey r.fText = 0
    · rw [if_pos hf] at hx2
      cases hx2
      have hm : ∀ q ∈ l ++ [(⟨r.fTime, r.fKind, r.fKey, dg r.fText, false, r.fText⟩ : Rc)], RecOk q := fun q hq => by
        rcases List.mem_append.1 hq with hq | hq
        · exact h q hq
        · rw [List.mem_singleton.1 hq]
          exact ⟨hr.kind, hr.key, by have := (dg_eq r.fText hr.text).2.1; simp only; omega, hr.text⟩
      simp only [ca_eq _ hm, Option.bind_some, decide_true, Bool.not_true, orO_some, Bool.false_or]
      by_cases hmc : caF (l ++ [(⟨r.fTime, r.fKind, r.fKey, dg r.fText, false, r.fText⟩ : Rc)]) = 0
      · rw [decide_eq_true hmc]
        simp only [Bool.not_true, cond_false]
        rw [proves_ok hm hmc (k := k) (by simp; omega) (by rw [List.take_append_of_le_length hk]) h16 hx]
        simp only [Option.bind_some, decide_true, andO_some, awake_eq, Bool.and_self]
      · rw [decide_eq_false hmc]
        simp only [Bool.not_false, cond_true, awake_eq, Option.bind_some]
    · rw [if_neg hf] at hx2
      cases hx2
      simp only
      rw [decide_eq_false hf]
      simp only [Bool.not_false]
      show ((some true).bind fun v => _) = _
      simp only [Option.bind_some, cond_true, awake_eq]
  unfold m_interchangelaw12_DeskHeadsStay sims_G2_1_0; dsimp only
  rw [hH]
  simp only [Option.bind_some, decide_true, Bool.not_true, cond_false, hP, orO_some, Bool.or_self]
  rw [decide_eq_true (show ((hdF (l.take k)).length : Int) = 16 by omega)]
  simp only [Bool.not_true, cond_false, hD, Option.bind_some]
  have hcn : m_slices_Clone_interchange_api_Record_interchange_api_Record l = some l := clone_eq l (by omega)
  cases hb : (decide (b < 0) || decide (2000000000000000 < b)) with
  | true =>
    simp only [cond_true]
    rw [decide_eq_false (show ¬ (1 : Int) = 0 by decide)]
    simp only [cond_false]
    rw [hR]
    simp only [Option.bind_some, hcn]
    rw [thenO_ok (by simp; omega)]
    exact tail _ hR
  | false =>
    simp only [cond_false, decide_true, cond_true]
    have hdm : ∀ q ∈ l.map (drF b), RecOk q := fun q hq => by
      obtain ⟨q', h1, rfl⟩ := List.mem_map.1 hq
      exact dr_rec (h q' h1)
    rw [proves_ok hdm (ca_zero.2 (dr_ca hC)) (k := k) (by rw [List.length_map]; exact hk) (by rw [← List.map_take, dr_hd]) h16 hx]
    simp only [Option.bind_some, decide_true, Bool.not_true, orO_some, Bool.or_self, List.length_map, cond_false]
    rw [hR]
    simp only [Option.bind_some, hcn]
    rw [thenO_ok (by simp; omega)]
    exact tail _ hR
end Go.Proofs.YthcfbglbjipdaaaDoor
