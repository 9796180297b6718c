/-
  Texts of mine, one behind the other (SAShelf, SALibT, SALibS, SAShelfI, SALibI, SALibO, SALibP, SALibC, SAShelfC, SAG1, SALibD, SACodeN, SANC, SANX, SAG5).
-/
import Derived.Ground.NamesProg
import Derived.Shelf.Strings.SlTrimAscii
import Derived.Shelf.Small.Strs
import Derived.Shelf.Strings.IndexAnyAll
import Derived.Test.YtpojlkajcobgcaaDoorProg
import Derived.Test.YtpojlkajcobgcaaDoorSAEngY
import Derived.KernelRfl
import Derived.Shelf.Strconv.Itoa3
import Derived.Test.YtpojlkajcobgcaaDoorSAEngX
import Derived.Shelf.SlicesE.Clone
import Derived.Shelf.SlGeneric
import Derived.Ground.SlgnProg
import Derived.Test.YtpojlkajcobgcaaDoorSAEngZ
import Derived.Test.YtpojlkajcobgcaaDoorSAEngW
import Derived.Test.YtpojlkajcobgcaaDoorSAEngWk
/-
  DERIVED: THE SHELF's CONTRACTS AT THIS DUMP, IN PLAIN WORDS (tools/lay-plain.mjs out of 'YtpojlkajcobgcaaDoorShelf.lean', which tools/lay-shelf.mjs wrote): THE SAME DECLARATIONS UNDER THE SAME NAMES: 'import', 'namespace', 'open', 'def', 'theorem' AND NOTHING ELSE: no command of the shelf's: FOR A HAND-IN. Each laying: the table of numbers ('.._ren') and one theorem, a field a fact of the dump's own or the kernel's comparison; each contract: ONE APPLICATION.
-/
namespace Go.Proofs
open Go.Shelf
def Tryd.lays160_ren : Go.Shelf.Ren := ⟨fun | 160 => 87 | 232 => 128 | 231 => 127 | 227 => 129 | 234 => 131 | 233 => 130 | 236 => 133 | 235 => 132 | 228 => 188 | 271 => 191 | 151 => 190 | 197 => 189 | 120 => 224 | 152 => 223 | 260 => 222 | 137 => 213 | 119 => 242 | 224 => 243 | 225 => 235 | 217 => 237 | 266 => 229 | n => n, fun | 9 => 9 | 4 => 4 | 3 => 3 | 5 => 5 | 117 => 200 | 116 => 199 | 0 => 0 | 124 => 203 | 21 => 21 | 105 => 258 | 46 => 170 | 119 => 295 | 139 => 298 | 138 => 297 | n => n, fun | 3 => 2 | 4 => 3 | n => n⟩
theorem Tryd.lays160 : Go.Proofs.Lays.n160 Tryd.prog Tryd.lays160_ren := {
  mixed := by kernel_rfl
  f119 := Tryd.func242.trans (congrArg some (by kernel_rfl))
  f120 := Tryd.func224.trans (congrArg some (by kernel_rfl))
  f137 := Tryd.func213.trans (congrArg some (by kernel_rfl))
  f151 := Tryd.func190.trans (congrArg some (by kernel_rfl))
  f152 := Tryd.func223.trans (congrArg some (by kernel_rfl))
  f160 := Tryd.func87.trans (congrArg some (by kernel_rfl))
  f197 := Tryd.func189.trans (congrArg some (by kernel_rfl))
  f217 := Tryd.func237.trans (congrArg some (by kernel_rfl))
  f224 := Tryd.func243.trans (congrArg some (by kernel_rfl))
  f225 := Tryd.func235.trans (congrArg some (by kernel_rfl))
  f227 := Tryd.func129.trans (congrArg some (by kernel_rfl))
  f228 := Tryd.func188.trans (congrArg some (by kernel_rfl))
  f231 := Tryd.func127.trans (congrArg some (by kernel_rfl))
  f232 := Tryd.func128.trans (congrArg some (by kernel_rfl))
  f233 := Tryd.func130.trans (congrArg some (by kernel_rfl))
  f234 := Tryd.func131.trans (congrArg some (by kernel_rfl))
  f235 := Tryd.func132.trans (congrArg some (by kernel_rfl))
  f236 := Tryd.func133.trans (congrArg some (by kernel_rfl))
  f260 := Tryd.func222.trans (congrArg some (by kernel_rfl))
  f266 := Tryd.func229.trans (congrArg some (by kernel_rfl))
  f271 := Tryd.func191.trans (congrArg some (by kernel_rfl))
  t0 := Tryd.underlying0
  a0 := Tryd.isAgg0
  z0 := Tryd.sizeOf0
  v0 := Tryd.zeroValue0
  t3 := Tryd.underlying3
  a3 := Tryd.isAgg3
  z3 := Tryd.sizeOf3
  v3 := Tryd.zeroValue3
  t4 := Tryd.underlying4
  a4 := Tryd.isAgg4
  z4 := Tryd.sizeOf4
  v4 := Tryd.zeroValue4
  t5 := Tryd.underlying5
  a5 := Tryd.isAgg5
  z5 := Tryd.sizeOf5
  v5 := Tryd.zeroValue5
  t9 := Tryd.underlying9
  a9 := Tryd.isAgg9
  z9 := Tryd.sizeOf9
  v9 := Tryd.zeroValue9
  t21 := Tryd.underlying21
  a21 := Tryd.isAgg21
  z21 := Tryd.sizeOf21
  v21 := Tryd.zeroValue21
  t46 := Tryd.underlying170
  a46 := Tryd.isAgg170
  z46 := Tryd.sizeOf170
  v46 := Tryd.zeroValue170
  t105 := Tryd.underlying258
  a105 := Tryd.isAgg258
  z105 := Tryd.sizeOf258
  v105 := Tryd.zeroValue258
  t116 := Tryd.underlying199
  a116 := Tryd.isAgg199
  z116 := Tryd.sizeOf199
  t117 := Tryd.underlying200
  a117 := Tryd.isAgg200
  z117 := Tryd.sizeOf200
  v117 := Tryd.zeroValue200
  t119 := Tryd.underlying295
  a119 := Tryd.isAgg295
  z119 := Tryd.sizeOf295
  t124 := Tryd.underlying203
  a124 := Tryd.isAgg203
  z124 := Tryd.sizeOf203
  v124 := Tryd.zeroValue203
  t138 := Tryd.underlying297
  a138 := Tryd.isAgg297
  z138 := Tryd.sizeOf297
  v138 := Tryd.zeroValue297
  t139 := Tryd.underlying298
  a139 := Tryd.isAgg298
  z139 := Tryd.sizeOf298
  v139 := Tryd.zeroValue298
  g3 := by kernel_rfl
  g4 := by kernel_rfl }
def Tryd.lays137_ren : Go.Shelf.Ren := ⟨fun | 137 => 213 | 217 => 237 | 266 => 229 | n => n, fun | 9 => 9 | 5 => 5 | 3 => 3 | n => n, fun | n => n⟩
theorem Tryd.lays137 : Go.Proofs.Lays.n137 Tryd.prog Tryd.lays137_ren := {
  mixed := by kernel_rfl
  f137 := Tryd.func213.trans (congrArg some (by kernel_rfl))
  f217 := Tryd.func237.trans (congrArg some (by kernel_rfl))
  f266 := Tryd.func229.trans (congrArg some (by kernel_rfl))
  t3 := Tryd.underlying3
  a3 := Tryd.isAgg3
  z3 := Tryd.sizeOf3
  v3 := Tryd.zeroValue3
  t5 := Tryd.underlying5
  a5 := Tryd.isAgg5
  z5 := Tryd.sizeOf5
  v5 := Tryd.zeroValue5
  t9 := Tryd.underlying9
  a9 := Tryd.isAgg9
  z9 := Tryd.sizeOf9
  v9 := Tryd.zeroValue9 }
def Tryd.lays150_ren : Go.Shelf.Ren := ⟨fun | 150 => 172 | 153 => 209 | 152 => 223 | 226 => 228 | 227 => 129 | 228 => 188 | 137 => 213 | 119 => 242 | 224 => 243 | 225 => 235 | 217 => 237 | 266 => 229 | n => n, fun | 9 => 9 | 4 => 4 | 3 => 3 | 5 => 5 | 21 => 21 | 117 => 200 | 116 => 199 | 0 => 0 | 46 => 170 | 124 => 203 | n => n, fun | n => n⟩
theorem Tryd.lays150 : Go.Proofs.Lays.n150 Tryd.prog Tryd.lays150_ren := {
  mixed := by kernel_rfl
  f119 := Tryd.func242.trans (congrArg some (by kernel_rfl))
  f137 := Tryd.func213.trans (congrArg some (by kernel_rfl))
  f150 := Tryd.func172.trans (congrArg some (by kernel_rfl))
  f152 := Tryd.func223.trans (congrArg some (by kernel_rfl))
  f153 := Tryd.func209.trans (congrArg some (by kernel_rfl))
  f217 := Tryd.func237.trans (congrArg some (by kernel_rfl))
  f224 := Tryd.func243.trans (congrArg some (by kernel_rfl))
  f225 := Tryd.func235.trans (congrArg some (by kernel_rfl))
  f226 := Tryd.func228.trans (congrArg some (by kernel_rfl))
  f227 := Tryd.func129.trans (congrArg some (by kernel_rfl))
  f228 := Tryd.func188.trans (congrArg some (by kernel_rfl))
  f266 := Tryd.func229.trans (congrArg some (by kernel_rfl))
  t0 := Tryd.underlying0
  a0 := Tryd.isAgg0
  z0 := Tryd.sizeOf0
  v0 := Tryd.zeroValue0
  t3 := Tryd.underlying3
  a3 := Tryd.isAgg3
  z3 := Tryd.sizeOf3
  v3 := Tryd.zeroValue3
  t4 := Tryd.underlying4
  a4 := Tryd.isAgg4
  z4 := Tryd.sizeOf4
  v4 := Tryd.zeroValue4
  t5 := Tryd.underlying5
  a5 := Tryd.isAgg5
  z5 := Tryd.sizeOf5
  v5 := Tryd.zeroValue5
  t9 := Tryd.underlying9
  a9 := Tryd.isAgg9
  z9 := Tryd.sizeOf9
  v9 := Tryd.zeroValue9
  t21 := Tryd.underlying21
  a21 := Tryd.isAgg21
  z21 := Tryd.sizeOf21
  v21 := Tryd.zeroValue21
  t46 := Tryd.underlying170
  a46 := Tryd.isAgg170
  z46 := Tryd.sizeOf170
  v46 := Tryd.zeroValue170
  t116 := Tryd.underlying199
  a116 := Tryd.isAgg199
  z116 := Tryd.sizeOf199
  t117 := Tryd.underlying200
  a117 := Tryd.isAgg200
  z117 := Tryd.sizeOf200
  v117 := Tryd.zeroValue200
  t124 := Tryd.underlying203
  a124 := Tryd.isAgg203
  z124 := Tryd.sizeOf203
  v124 := Tryd.zeroValue203 }
end Go.Proofs

/-
  strings.Trim at a set of ASCII bytes.
-/
namespace Go.Proofs.YtpojlkajcobgcaaDoor
set_option linter.unusedSimpArgs false
set_option linter.unusedVariables false
open Go.RowKit Go.Shelf

def m_strings_Trim (s cs : List UInt8) : Option (List UInt8) := if s.length ≤ 9223372036854775807 ∧ cs.length < 4294967281 ∧ cs.all (fun b => decide (b.toNat < 128)) = true then some (Lib.trimS s cs) else none
theorem spec_strings_Trim (s cs : List UInt8) : ∀ r, m_strings_Trim s cs = some r → PureSpec Tryd.prog 87 [.str s, .str cs] (.str r) := by
  intro r hr
  unfold m_strings_Trim at hr
  split at hr
  · rename_i h
    obtain ⟨h1, h2, h3⟩ := h
    cases hr
    refine ⟨by kernel_rfl, fun w M vs hM hv _ => ?_⟩
    simp only [RepL, Rep] at hv
    obtain ⟨u, us, rfl, rfl, u', us', rfl, rfl, rfl⟩ := hv
    have hcon := Any.strings_Trim_laid Tryd.lays160 (by kernel_rfl) ⟨s.toArray⟩ ⟨cs.toArray⟩ w (by simpa [ByteArray.size] using h1) (by simpa [ByteArray.size] using h2) (ascii_of_all (by simpa using h3))
    refine Calls.mono hcon ?_
    rintro e w' ⟨rfl, hB⟩
    exact ⟨_, rfl, by simp [Rep], hB⟩
  · cases hr
end Go.Proofs.YtpojlkajcobgcaaDoor

/-
  strings.IndexByte and strings.ContainsAny (of ASCII).
-/
namespace Go.Proofs.YtpojlkajcobgcaaDoor
set_option linter.unusedSimpArgs false
set_option linter.unusedVariables false
open Go.RowKit Go.Shelf

def m_strings_IndexByte (s : List UInt8) (c : UInt8) : Option Int := some (Lib.indexByte s c)
theorem spec_strings_IndexByte (s : List UInt8) (c : UInt8) : ∀ r, m_strings_IndexByte s c = some r → PureSpec Tryd.prog 213 [.str s, .int .u8 c.toNat] (.int .i64 r) := by
  intro r hr
  cases hr
  refine ⟨by kernel_rfl, fun w M vs hM hv _ => ?_⟩
  simp only [RepL, Rep] at hv
  obtain ⟨u, us, rfl, rfl, u', us', rfl, rfl, rfl⟩ := hv
  have hcon := Any.strings_IndexByte Tryd.lays137 ⟨s.toArray⟩ (c.toNat : Int) w
  refine Calls.mono hcon ?_
  rintro e w' ⟨rfl, rfl⟩
  refine ⟨_, rfl, ?_, Below.refl _ _⟩
  simp only [Rep]
  have : ((c.toNat : Int)).toNat.toUInt8 = c := by simp
  rw [this]
def m_strings_ContainsAny (s cs : List UInt8) : Option Bool := if s.length < 4294967281 ∧ cs.length < 4294967281 ∧ s.all (fun b => decide (b.toNat < 128)) = true ∧ cs.all (fun b => decide (b.toNat < 128)) = true then some (Lib.containsAny s cs) else none
theorem spec_strings_ContainsAny (s cs : List UInt8) : ∀ r, m_strings_ContainsAny s cs = some r → PureSpec Tryd.prog 172 [.str s, .str cs] (.bool r) := by
  intro r hr
  unfold m_strings_ContainsAny at hr
  split at hr
  · rename_i h
    obtain ⟨h1, h2, h3, h4⟩ := h
    cases hr
    refine ⟨by kernel_rfl, fun w M vs hM hv _ => ?_⟩
    simp only [RepL, Rep] at hv
    obtain ⟨u, us, rfl, rfl, u', us', rfl, rfl, rfl⟩ := hv
    have asc : ∀ (l : List UInt8), l.all (fun b => decide (b.toNat < 128)) = true → ∀ (j : Nat) b, l[j]? = some b → b.toNat < 128 := fun l hl j b hb => by
      have := List.all_eq_true.1 hl b (List.mem_of_getElem? hb)
      simpa using this
    have hcon := Any.strings_ContainsAny_laid Tryd.lays150 (by kernel_rfl) ⟨s.toArray⟩ ⟨cs.toArray⟩ w (by simpa [ByteArray.size] using h1) (by simpa [ByteArray.size] using h2) (asc s h3) (asc cs h4)
    refine Calls.mono hcon ?_
    rintro e w' ⟨rfl, hB⟩
    exact ⟨_, rfl, by simp [Rep], hB⟩
  · cases hr
end Go.Proofs.YtpojlkajcobgcaaDoor

/-
  DERIVED: THE SHELF's CONTRACTS AT THIS DUMP, IN PLAIN WORDS (tools/lay-plain.mjs out of 'YtpojlkajcobgcaaDoorShelfI.lean', which tools/lay-shelf.mjs wrote): THE SAME DECLARATIONS UNDER THE SAME NAMES: 'import', 'namespace', 'open', 'def', 'theorem' AND NOTHING ELSE: no command of the shelf's: FOR A HAND-IN. Each laying: the table of numbers ('.._ren') and one theorem, a field a fact of the dump's own or the kernel's comparison; each contract: ONE APPLICATION.
-/
namespace Go.Proofs
open Go.Shelf
def Tryd.lays171_ren : Go.Shelf.Ren := ⟨fun | 171 => 42 | 243 => 86 | 246 => 126 | 283 => 184 | 284 => 185 | 285 => 186 | 286 => 187 | 129 => 153 | 317 => 218 | 318 => 219 | 319 => 220 | 320 => 221 | 337 => 240 | 338 => 241 | n => n, fun | 3 => 3 | 9 => 9 | 2 => 2 | 4 => 4 | 171 => 254 | 0 => 0 | 53 => 181 | 37 => 74 | 5 => 5 | 173 => 256 | 212 => 282 | 51 => 222 | 20 => 20 | 213 => 283 | 46 => 170 | 232 => 303 | 233 => 304 | n => n, fun | 17 => 0 | 18 => 4 | 19 => 5 | n => n⟩
theorem Tryd.lays171 : Go.Proofs.LaysM.n171 Tryd.prog Tryd.lays171_ren := {
  mixed := by kernel_rfl
  f129 := Tryd.func153.trans (congrArg some (by kernel_rfl))
  f171 := Tryd.func42.trans (congrArg some (by kernel_rfl))
  f243 := Tryd.func86.trans (congrArg some (by kernel_rfl))
  f246 := Tryd.func126.trans (congrArg some (by kernel_rfl))
  f283 := Tryd.func184.trans (congrArg some (by kernel_rfl))
  f284 := Tryd.func185.trans (congrArg some (by kernel_rfl))
  f285 := Tryd.func186.trans (congrArg some (by kernel_rfl))
  f286 := Tryd.func187.trans (congrArg some (by kernel_rfl))
  f317 := Tryd.func218.trans (congrArg some (by kernel_rfl))
  f318 := Tryd.func219.trans (congrArg some (by kernel_rfl))
  f319 := Tryd.func220.trans (congrArg some (by kernel_rfl))
  f320 := Tryd.func221.trans (congrArg some (by kernel_rfl))
  f337 := Tryd.func240.trans (congrArg some (by kernel_rfl))
  f338 := Tryd.func241.trans (congrArg some (by kernel_rfl))
  t0 := Tryd.underlying0
  a0 := Tryd.isAgg0
  z0 := Tryd.sizeOf0
  v0 := Tryd.zeroValue0
  t2 := Tryd.underlying2
  a2 := Tryd.isAgg2
  z2 := Tryd.sizeOf2
  v2 := Tryd.zeroValue2
  t3 := Tryd.underlying3
  a3 := Tryd.isAgg3
  z3 := Tryd.sizeOf3
  v3 := Tryd.zeroValue3
  t4 := Tryd.underlying4
  a4 := Tryd.isAgg4
  z4 := Tryd.sizeOf4
  v4 := Tryd.zeroValue4
  t5 := Tryd.underlying5
  a5 := Tryd.isAgg5
  z5 := Tryd.sizeOf5
  v5 := Tryd.zeroValue5
  t9 := Tryd.underlying9
  a9 := Tryd.isAgg9
  z9 := Tryd.sizeOf9
  v9 := Tryd.zeroValue9
  t20 := Tryd.underlying20
  a20 := Tryd.isAgg20
  z20 := Tryd.sizeOf20
  v20 := Tryd.zeroValue20
  t37 := Tryd.underlying74
  a37 := Tryd.isAgg74
  z37 := Tryd.sizeOf74
  v37 := Tryd.zeroValue74
  t46 := Tryd.underlying170
  a46 := Tryd.isAgg170
  z46 := Tryd.sizeOf170
  v46 := Tryd.zeroValue170
  t51 := Tryd.underlying222
  a51 := Tryd.isAgg222
  z51 := Tryd.sizeOf222
  v51 := Tryd.zeroValue222
  t53 := Tryd.underlying181
  a53 := Tryd.isAgg181
  z53 := Tryd.sizeOf181
  v53 := Tryd.zeroValue181
  t171 := Tryd.underlying254
  a171 := Tryd.isAgg254
  z171 := Tryd.sizeOf254
  v171 := Tryd.zeroValue254
  t173 := Tryd.underlying256
  a173 := Tryd.isAgg256
  z173 := Tryd.sizeOf256
  v173 := Tryd.zeroValue256
  t212 := Tryd.underlying282
  a212 := Tryd.isAgg282
  z212 := Tryd.sizeOf282
  v212 := Tryd.zeroValue282
  t213 := Tryd.underlying283
  a213 := Tryd.isAgg283
  z213 := Tryd.sizeOf283
  t232 := Tryd.underlying303
  a232 := Tryd.isAgg303
  z232 := Tryd.sizeOf303
  v232 := Tryd.zeroValue303
  t233 := Tryd.underlying304
  a233 := Tryd.isAgg304
  z233 := Tryd.sizeOf304
  v233 := Tryd.zeroValue304
  g17 := by kernel_rfl
  g18 := by kernel_rfl
  g19 := by kernel_rfl
  i0 := by kernel_rfl
  i2 := by kernel_rfl
  i3 := by kernel_rfl
  i4 := by kernel_rfl
  i5 := by kernel_rfl
  i9 := by kernel_rfl
  i20 := by kernel_rfl
  i37 := by kernel_rfl
  i46 := by kernel_rfl
  i51 := by kernel_rfl
  i53 := by kernel_rfl
  i171 := by kernel_rfl
  i173 := by kernel_rfl
  i212 := by kernel_rfl
  i232 := by kernel_rfl
  i233 := by kernel_rfl
  m17 := by kernel_rfl
  m18 := by kernel_rfl
  m19 := by kernel_rfl }
end Go.Proofs

/-
  strconv.Itoa, over the table of the powers of ten.
-/
namespace Go.Proofs.YtpojlkajcobgcaaDoor
set_option linter.unusedSimpArgs false
set_option linter.unusedVariables false
open Go.RowKit Go.Shelf

theorem below_grow (w : World) (k : Nat) (os : Array Obj) : Below w.heap.size w (Go.Sort.grow (w.drewN k) os) := by
  refine ⟨rfl, rfl, rfl, ?_, fun i hi => ?_⟩
  · show w.heap.size ≤ (w.heap ++ os).size
    rw [Array.size_append]; omega
  · show (w.heap ++ os)[i]? = w.heap[i]?
    rw [Array.getElem?_append_left hi]
theorem tab_pow10 {w : World} (h : Good w) : Lib.TabIs Tryd.prog w "internal/strconv.uint64pow10" .u64 Lib.pow10Tab := by
  obtain ⟨u, f, hc⟩ := h (0, .u64, Lib.pow10Tab) (by unfold tabs; exact List.mem_of_getElem? (i := 0) rfl)
  unfold Lib.TabIs World.var?
  rw [show Tryd.prog.globalNamed "internal/strconv.uint64pow10" = some 0 by kernel_rfl]
  simp only [Option.bind_some]
  rw [hc]
def m_strconv_Itoa (n : Int) : Option (List UInt8) := if -9223372036854775808 ≤ n ∧ n ≤ 9223372036854775807 then some (Lib.itoa n) else none
theorem spec_strconv_Itoa (n : Int) : ∀ r, m_strconv_Itoa n = some r → PureSpec Tryd.prog 42 [.int .i64 n] (.str r) := by
  intro r hr
  unfold m_strconv_Itoa at hr
  split at hr
  · rename_i h
    cases hr
    refine ⟨by kernel_rfl, fun w M vs hM hv hgood => ?_⟩
    simp only [RepL, Rep] at hv
    obtain ⟨u, us, rfl, rfl, rfl⟩ := hv
    refine Calls.mono (Any.strconv_Itoa Tryd.lays171 n h.1 h.2 w (tab_pow10 hgood)) ?_
    rintro e w' ⟨rfl, k, os, rfl⟩
    exact ⟨_, rfl, by simp [Rep], below_grow w k os⟩
  · cases hr
end Go.Proofs.YtpojlkajcobgcaaDoor

/-
  A row that a call has made, as data.
-/
namespace Go.Proofs.YtpojlkajcobgcaaDoor
set_option linter.unusedSimpArgs false
set_option linter.unusedVariables false
open Go.RowKit Go.Lib
end Go.Proofs.YtpojlkajcobgcaaDoor

/-
  Calls whose result is an owned slice.
-/
namespace Go.Proofs.YtpojlkajcobgcaaDoor
set_option linter.unusedSimpArgs false
set_option linter.unusedVariables false
open Go.RowKit Go.Lib

end Go.Proofs.YtpojlkajcobgcaaDoor

/-
  slices.Clone at any element type, as a contract over data values: what comes back is owned.
-/
namespace Go.Proofs.YtpojlkajcobgcaaDoor
set_option linter.unusedSimpArgs false
set_option linter.unusedVariables false
open Go.RowKit Go.Shelf Go.Lib
variable {P : Program} {ρ : Ren}

end Go.Proofs.YtpojlkajcobgcaaDoor

/-
  DERIVED: THE SHELF's CONTRACTS AT THIS DUMP, IN PLAIN WORDS (tools/lay-plain.mjs out of 'YtpojlkajcobgcaaDoorShelfC.lean', which tools/lay-shelf.mjs wrote): THE SAME DECLARATIONS UNDER THE SAME NAMES: 'import', 'namespace', 'open', 'def', 'theorem' AND NOTHING ELSE: no command of the shelf's: FOR A HAND-IN. Each laying: the table of numbers ('.._ren') and one theorem, a field a fact of the dump's own or the kernel's comparison; each contract: ONE APPLICATION.
-/
namespace Go.Proofs
open Go.Shelf
end Go.Proofs

/-
  Bodies of functions and what they compute, printed by programs of mine (wip/tool/gen.py, sc.py) out of the translation; the kernel holds each against the translation.
-/
namespace Go.Proofs.YtpojlkajcobgcaaDoor
open Go.RowKit
set_option linter.unusedSimpArgs false
set_option linter.unusedVariables false
structure Tapi_Marks where
  fElement : UInt8
  fPart : UInt8
  fRepeat : UInt8
  fEscape : UInt8
  fEnd : UInt8
  deriving DecidableEq
def rTapi_Marks (x : Tapi_Marks) : List DV := [.int .u8 (x.fElement).toNat, .int .u8 (x.fPart).toNat, .int .u8 (x.fRepeat).toNat, .int .u8 (x.fEscape).toNat, .int .u8 (x.fEnd).toNat]
attribute [push_cast] rTapi_Marks
theorem fT_Tapi_Marks {d0 d1 d2 d3 d4 : DV} {v0 : UInt8} {v1 : UInt8} {v2 : UInt8} {v3 : UInt8} {v4 : UInt8} (h0 : d0 = .int .u8 (v0).toNat) (h1 : d1 = .int .u8 (v1).toNat) (h2 : d2 = .int .u8 (v2).toNat) (h3 : d3 = .int .u8 (v3).toNat) (h4 : d4 = .int .u8 (v4).toNat) : [d0, d1, d2, d3, d4] = rTapi_Marks ⟨v0, v1, v2, v3, v4⟩ := by unfold rTapi_Marks; simp only [h0, h1, h2, h3, h4, List.cons_append, List.nil_append, List.append_assoc, List.append_nil]
theorem cT_Tapi_Marks {d0 d1 d2 d3 d4 : SV} {v0 : UInt8} {v1 : UInt8} {v2 : UInt8} {v3 : UInt8} {v4 : UInt8} (h0 : svle d0 (.d (.int .u8 (v0).toNat))) (h1 : svle d1 (.d (.int .u8 (v1).toNat))) (h2 : svle d2 (.d (.int .u8 (v2).toNat))) (h3 : svle d3 (.d (.int .u8 (v3).toNat))) (h4 : svle d4 (.d (.int .u8 (v4).toNat))) : cellsle [d0, d1, d2, d3, d4] (dR (rTapi_Marks ⟨v0, v1, v2, v3, v4⟩)) := by have h := (cellsle.append (cellsle.consS h0 cellsle.nil) (cellsle.append (cellsle.consS h1 cellsle.nil) (cellsle.append (cellsle.consS h2 cellsle.nil) (cellsle.append (cellsle.consS h3 cellsle.nil) (cellsle.consS h4 cellsle.nil))))); simpa only [rTapi_Marks, dR, List.map_append, List.map_cons, List.map_nil, List.cons_append, List.nil_append, List.append_assoc, List.append_nil] using h
structure Tapi_Element where
  fRepeats : List (List (List UInt8))
  deriving DecidableEq
def rTapi_Element (x : Tapi_Element) : List DV := [.slice (List.map (rowL rowS) x.fRepeats)]
attribute [push_cast] rTapi_Element
theorem fT_Tapi_Element {d0 : DV} {v0 : List (List (List UInt8))} (h0 : d0 = .slice (List.map (rowL rowS) v0)) : [d0] = rTapi_Element ⟨v0⟩ := by unfold rTapi_Element; simp only [h0, List.cons_append, List.nil_append, List.append_assoc, List.append_nil]
theorem cT_Tapi_Element {d0 : SV} {v0 : List (List (List UInt8))} (h0 : svle d0 (.d (.slice (List.map (rowL rowS) v0)))) : cellsle [d0] (dR (rTapi_Element ⟨v0⟩)) := by have h := (cellsle.consS h0 cellsle.nil); simpa only [rTapi_Element, dR, List.map_append, List.map_cons, List.map_nil, List.cons_append, List.nil_append, List.append_assoc, List.append_nil] using h
theorem eT_Tapi_Element {d0 : SV} {v0 : List (List (List UInt8))} (h0 : d0 = .d (.slice (List.map (rowL rowS) v0))) : [d0] = dR (rTapi_Element ⟨v0⟩) := by simp only [rTapi_Element, dR, List.map_append, List.map_cons, List.map_nil, List.cons_append, List.nil_append, List.append_assoc, List.append_nil, h0]

structure Tapi_Segment where
  fTag : List UInt8
  fElements : List Tapi_Element
  deriving DecidableEq
def rTapi_Segment (x : Tapi_Segment) : List DV := [.str x.fTag, .slice (List.map rTapi_Element x.fElements)]
attribute [push_cast] rTapi_Segment
theorem fT_Tapi_Segment {d0 d1 : DV} {v0 : List UInt8} {v1 : List Tapi_Element} (h0 : d0 = .str v0) (h1 : d1 = .slice (List.map rTapi_Element v1)) : [d0, d1] = rTapi_Segment ⟨v0, v1⟩ := by unfold rTapi_Segment; simp only [h0, h1, List.cons_append, List.nil_append, List.append_assoc, List.append_nil]
theorem cT_Tapi_Segment {d0 d1 : SV} {v0 : List UInt8} {v1 : List Tapi_Element} (h0 : svle d0 (.d (.str v0))) (h1 : svle d1 (.d (.slice (List.map rTapi_Element v1)))) : cellsle [d0, d1] (dR (rTapi_Segment ⟨v0, v1⟩)) := by have h := (cellsle.append (cellsle.consS h0 cellsle.nil) (cellsle.consS h1 cellsle.nil)); simpa only [rTapi_Segment, dR, List.map_append, List.map_cons, List.map_nil, List.cons_append, List.nil_append, List.append_assoc, List.append_nil] using h
theorem eT_Tapi_Segment {d0 d1 : SV} {v0 : List UInt8} {v1 : List Tapi_Element} (h0 : d0 = .d (.str v0)) (h1 : d1 = .d (.slice (List.map rTapi_Element v1))) : [d0, d1] = dR (rTapi_Segment ⟨v0, v1⟩) := by simp only [rTapi_Segment, dR, List.map_append, List.map_cons, List.map_nil, List.cons_append, List.nil_append, List.append_assoc, List.append_nil, h0, h1]

def sc_kit_InBytes_L1 : SC :=
  (.seq (.reg [.r 11 (.bin .lss (.t 10) (.t 9))])
  (.seq (.cond (.t 11)
    .skip
    (.exit 0))
  (.seq (.block 1 (.seq (.reg [.r 12 (.mv (.t 10)),
       .r 7 (.mv (.t 12))])
    (.seq (.reg (.r 13 (.mv (.t 0)) :: .r 14 (.mv (.t 7)) :: .r 15 (.sidx (.t 13) (.t 14)) :: .r 16 (.mv (.t 1)) :: .r 17 (.bin .lss (.t 15) (.t 16)) :: .r 18 (.mv (.t 17)) :: gapp [19, 20, 21, 22, 23] 18 false (.r 19 (.mv (.t 0)) :: .r 20 (.mv (.t 7)) :: .r 21 (.sidx (.t 19) (.t 20)) :: .r 22 (.mv (.t 2)) :: .r 23 (.bin .gtr (.t 21) (.t 22)) :: []) (.r 24 (.pick (.t 18) (.c (.d (.bool true))) (.t 23)) :: [])))
    (.cond (.t 24)
      (.seq (.reg [.r 6 (.mv (.c (.d (.bool false))))])
      .ret)
      .skip))))
  (.reg [.r 25 (.bin .add (.t 10) (.c (.d (.int .i64 1)))),
     .r 10 (.mv (.t 25))]))))
def sc_kit_InBytes_B1 : SC := .block 0 (.loop sc_kit_InBytes_L1)
/-- interchange/kit.InBytes -/
def sc_kit_InBytes : SC :=
  (.seq (.reg [.r 6 (.mv (.c (.d (.bool false))))])
  (.seq (.seq (.reg [.r 8 (.mv (.t 0)),
     .r 9 (.lenT (.t 8)),
     .r 10 (.mv (.c (.d (.int .i64 0))))])
  sc_kit_InBytes_B1)
  (.seq (.reg [.r 6 (.mv (.c (.d (.bool true))))])
  .ret)))
theorem fit_kit_InBytes : fits Tryd.prog 110 Tryd.f110 sc_kit_InBytes [.t 6] 3 = true := by kernel_rfl

def sc_slices_Index_byte_byte_L1 : SC :=
  (.seq (.reg [.r 9 (.bin .lss (.t 8) (.t 7))])
  (.seq (.cond (.t 9)
    .skip
    (.exit 0))
  (.seq (.block 1 (.seq (.reg [.r 10 (.mv (.t 8)),
       .r 5 (.mv (.t 10))])
    (.seq (.reg [.r 11 (.mv (.t 1)),
       .r 12 (.mv (.t 0)),
       .r 13 (.mv (.t 5)),
       .r 14 (.idx 1 (.t 12) (.t 13)),
       .o 15 (.ld1 (.t 14)),
       .r 16 (.bin .eql (.t 11) (.t 15))])
    (.cond (.t 16)
      (.seq (.reg [.r 17 (.mv (.t 5)),
         .r 4 (.mv (.t 17))])
      .ret)
      .skip))))
  (.reg [.r 18 (.bin .add (.t 8) (.c (.d (.int .i64 1)))),
     .r 8 (.mv (.t 18))]))))
def sc_slices_Index_byte_byte_B1 : SC := .block 0 (.loop sc_slices_Index_byte_byte_L1)
/-- slices.Index[[]byte,byte] -/
def sc_slices_Index_byte_byte : SC :=
  (.seq (.reg [.r 4 (.mv (.c (.d (.int .i64 0))))])
  (.seq (.seq (.reg [.r 6 (.mv (.t 0)),
     .r 7 (.len (.t 6)),
     .r 8 (.mv (.c (.d (.int .i64 0))))])
  sc_slices_Index_byte_byte_B1)
  (.seq (.reg [.r 4 (.mv (.c (.d (.int .i64 (-1)))))])
  .ret)))
theorem fit_slices_Index_byte_byte : fits Tryd.prog 173 Tryd.f173 sc_slices_Index_byte_byte [.t 4] 2 = true := by kernel_rfl

/-- interchange/interchangeref2.mark -/
def sc_interchangeref2_mark : SC :=
  (.seq (.reg [.r 2 (.mv (.c (.d (.bool false))))])
  (.seq (.seq (.reg (.r 3 (.mv (.t 0)) :: .r 4 (.bin .lss (.t 3) (.c (.d (.int .u8 33)))) :: .r 5 (.mv (.t 4)) :: gapp [6, 7] 5 false (.r 6 (.mv (.t 0)) :: .r 7 (.bin .gtr (.t 6) (.c (.d (.int .u8 126)))) :: []) (.r 8 (.pick (.t 5) (.c (.d (.bool true))) (.t 7)) :: .r 9 (.mv (.t 8)) :: gapp [10, 11] 9 false (.r 10 (.mv (.t 0)) :: .r 11 (.bin .eql (.t 10) (.c (.d (.int .u8 46)))) :: []) (.r 12 (.pick (.t 9) (.c (.d (.bool true))) (.t 11)) :: .r 13 (.mv (.t 12)) :: gapp [14, 15] 13 false (.r 14 (.mv (.t 0)) :: .r 15 (.bin .eql (.t 14) (.c (.d (.int .u8 45)))) :: []) (.r 16 (.pick (.t 13) (.c (.d (.bool true))) (.t 15)) :: .r 17 (.mv (.t 16)) :: gapp [18, 19] 17 false (.r 18 (.mv (.t 0)) :: .r 19 (.bin .eql (.t 18) (.c (.d (.int .u8 43)))) :: []) (.r 20 (.pick (.t 17) (.c (.d (.bool true))) (.t 19)) :: .r 21 (.mv (.t 20)) :: gapp [22, 23] 21 false (.r 22 (.mv (.t 0)) :: .r 23 (.bin .eql (.t 22) (.c (.d (.int .u8 95)))) :: []) (.r 24 (.pick (.t 21) (.c (.d (.bool true))) (.t 23)) :: [])))))))
  (.cond (.t 24)
    (.seq (.reg [.r 2 (.mv (.c (.d (.bool false))))])
    .ret)
    .skip))
  (.seq (.reg (.r 25 (.mv (.t 0)) :: .r 26 (.bin .geq (.t 25) (.c (.d (.int .u8 65)))) :: .r 27 (.mv (.t 26)) :: gapp [28, 29] 27 true (.r 28 (.mv (.t 0)) :: .r 29 (.bin .leq (.t 28) (.c (.d (.int .u8 90)))) :: []) (.r 30 (.pick (.t 27) (.t 29) (.c (.d (.bool false)))) :: .r 31 (.mv (.t 30)) :: gapp [32, 33, 34, 35, 36, 37] 31 false (.r 32 (.mv (.t 0)) :: .r 33 (.bin .geq (.t 32) (.c (.d (.int .u8 97)))) :: .r 34 (.mv (.t 33)) :: gapp [35, 36] 34 true (.r 35 (.mv (.t 0)) :: .r 36 (.bin .leq (.t 35) (.c (.d (.int .u8 122)))) :: []) (.r 37 (.pick (.t 34) (.t 36) (.c (.d (.bool false)))) :: [])) (.r 38 (.pick (.t 31) (.c (.d (.bool true))) (.t 37)) :: .r 39 (.mv (.t 38)) :: gapp [40, 41, 42, 43, 44, 45] 39 false (.r 40 (.mv (.t 0)) :: .r 41 (.bin .geq (.t 40) (.c (.d (.int .u8 48)))) :: .r 42 (.mv (.t 41)) :: gapp [43, 44] 42 true (.r 43 (.mv (.t 0)) :: .r 44 (.bin .leq (.t 43) (.c (.d (.int .u8 57)))) :: []) (.r 45 (.pick (.t 42) (.t 44) (.c (.d (.bool false)))) :: [])) (.r 46 (.pick (.t 39) (.c (.d (.bool true))) (.t 45)) :: .r 47 (.not (.t 46)) :: .r 2 (.mv (.t 47)) :: [])))))
  .ret)))
theorem fit_interchangeref2_mark : fits Tryd.prog 116 Tryd.f116 sc_interchangeref2_mark [.t 2] 1 = true := by kernel_rfl

def sc_interchangeref2_beginsTag_L1 : SC :=
  (.seq (.seq (.reg [.r 5 (.mv (.t 3)),
     .r 6 (.mv (.t 0)),
     .r 7 (.lenT (.t 6)),
     .r 8 (.bin .lss (.t 5) (.t 7))])
  (.cond (.t 8)
    .skip
    (.exit 0)))
  (.seq (.block 1 (.seq (.reg (.r 11 (.mv (.t 0)) :: .r 12 (.mv (.t 3)) :: .r 13 (.sidx (.t 11) (.t 12)) :: .r 14 (.bin .geq (.t 13) (.c (.d (.int .u8 65)))) :: .r 15 (.mv (.t 14)) :: gapp [16, 17, 18, 19] 15 true (.r 16 (.mv (.t 0)) :: .r 17 (.mv (.t 3)) :: .r 18 (.sidx (.t 16) (.t 17)) :: .r 19 (.bin .leq (.t 18) (.c (.d (.int .u8 90)))) :: []) (.r 20 (.pick (.t 15) (.t 19) (.c (.d (.bool false)))) :: .r 4 (.mv (.t 20)) :: [])))
    (.seq (.reg (.r 21 (.mv (.t 4)) :: .r 22 (.not (.t 21)) :: .r 23 (.mv (.t 22)) :: gapp [24, 25, 26, 27, 28, 29, 30, 31, 32, 33, 34, 35, 36, 37] 23 true (.r 24 (.mv (.t 3)) :: .r 25 (.bin .eql (.t 24) (.c (.d (.int .i64 0)))) :: .r 26 (.mv (.t 25)) :: gapp [27, 28, 29, 30] 26 false (.r 27 (.mv (.t 0)) :: .r 28 (.mv (.t 3)) :: .r 29 (.sidx (.t 27) (.t 28)) :: .r 30 (.bin .lss (.t 29) (.c (.d (.int .u8 48)))) :: []) (.r 31 (.pick (.t 26) (.c (.d (.bool true))) (.t 30)) :: .r 32 (.mv (.t 31)) :: gapp [33, 34, 35, 36] 32 false (.r 33 (.mv (.t 0)) :: .r 34 (.mv (.t 3)) :: .r 35 (.sidx (.t 33) (.t 34)) :: .r 36 (.bin .gtr (.t 35) (.c (.d (.int .u8 57)))) :: []) (.r 37 (.pick (.t 32) (.c (.d (.bool true))) (.t 36)) :: []))) (.r 38 (.pick (.t 23) (.t 37) (.c (.d (.bool false)))) :: [])))
    (.cond (.t 38)
      (.seq (.reg [.r 2 (.mv (.c (.d (.bool false))))])
      .ret)
      .skip))))
  (.reg [.r 9 (.mv (.t 3)),
     .r 10 (.bin .add (.t 9) (.c (.d (.int .i64 1)))),
     .r 3 (.mv (.t 10))])))
def sc_interchangeref2_beginsTag_B1 : SC := .block 0 (.loop sc_interchangeref2_beginsTag_L1)
/-- interchange/interchangeref2.beginsTag -/
def sc_interchangeref2_beginsTag : SC :=
  (.seq (.reg [.r 2 (.mv (.c (.d (.bool false))))])
  (.seq (.seq (.reg [.r 3 (.mv (.c (.d (.int .i64 0))))])
  sc_interchangeref2_beginsTag_B1)
  (.seq (.reg [.r 39 (.mv (.t 0)),
     .r 40 (.lenT (.t 39)),
     .r 41 (.bin .leq (.t 40) (.c (.d (.int .i64 6)))),
     .r 2 (.mv (.t 41))])
  .ret)))
theorem fit_interchangeref2_beginsTag : fits Tryd.prog 215 Tryd.f215 sc_interchangeref2_beginsTag [.t 2] 1 = true := by kernel_rfl

def sc_interchangeref2_checkText_L1 : SC :=
  (.seq (.seq (.reg [.r 7 (.mv (.t 3)),
     .r 8 (.mv (.t 0)),
     .r 9 (.lenT (.t 8)),
     .r 10 (.bin .lss (.t 7) (.t 9))])
  (.cond (.t 10)
    .skip
    (.exit 0)))
  (.seq (.block 1 (.seq (.reg (.r 13 (.mv (.t 0)) :: .r 14 (.mv (.t 3)) :: .r 15 (.sidx (.t 13) (.t 14)) :: .r 16 (.bin .lss (.t 15) (.c (.d (.int .u8 32)))) :: .r 17 (.mv (.t 16)) :: gapp [18, 19, 20, 21] 17 false (.r 18 (.mv (.t 0)) :: .r 19 (.mv (.t 3)) :: .r 20 (.sidx (.t 18) (.t 19)) :: .r 21 (.bin .gtr (.t 20) (.c (.d (.int .u8 126)))) :: []) (.r 22 (.pick (.t 17) (.c (.d (.bool true))) (.t 21)) :: [])))
    (.cond (.t 22)
      (.seq (.reg [.r 2 (.mv (.c (.d (.int .i64 3))))])
      .ret)
      .skip)))
  (.reg [.r 11 (.mv (.t 3)),
     .r 12 (.bin .add (.t 11) (.c (.d (.int .i64 1)))),
     .r 3 (.mv (.t 12))])))
def sc_interchangeref2_checkText_B1 : SC := .block 0 (.loop sc_interchangeref2_checkText_L1)
/-- interchange/interchangeref2.checkText -/
def sc_interchangeref2_checkText : SC :=
  (.seq (.reg [.r 2 (.mv (.c (.d (.int .i64 0))))])
  (.seq (.seq (.reg [.r 4 (.mv (.t 0)),
     .r 5 (.lenT (.t 4)),
     .r 6 (.bin .gtr (.t 5) (.c (.d (.int .i64 1000))))])
  (.cond (.t 6)
    (.seq (.reg [.r 2 (.mv (.c (.d (.int .i64 2))))])
    .ret)
    .skip))
  (.seq (.seq (.reg [.r 3 (.mv (.c (.d (.int .i64 0))))])
  sc_interchangeref2_checkText_B1)
  (.seq (.reg [.r 2 (.mv (.c (.d (.int .i64 0))))])
  .ret))))
theorem fit_interchangeref2_checkText : fits Tryd.prog 239 Tryd.f239 sc_interchangeref2_checkText [.t 2] 1 = true := by kernel_rfl

set_option maxRecDepth 100000 in
set_option maxHeartbeats 40000000 in
noncomputable def sims_G1_0_0 : (∀ (x0 : List UInt8) (x1 : UInt8) (x2 : UInt8), {m : Option (Bool) // ∀ r, m = some r → PureSpec Tryd.prog 110 [.str x0, .int .u8 (x1).toNat, .int .u8 (x2).toNat] (.bool r)}) × (∀ (x0 : List UInt8) (x1 : UInt8), {m : Option (Int) // ∀ r, m = some r → PureSpec Tryd.prog 173 [.slice (List.map rowY x0), .int .u8 (x1).toNat] (.int .i64 r)}) × (∀ (x0 : UInt8), {m : Option (Bool) // ∀ r, m = some r → PureSpec Tryd.prog 116 [.int .u8 (x0).toNat] (.bool r)}) × (∀ (x0 : List UInt8), {m : Option (Bool) // ∀ r, m = some r → PureSpec Tryd.prog 215 [.str x0] (.bool r)}) × (∀ (x0 : List UInt8), {m : Option (Int) // ∀ r, m = some r → PureSpec Tryd.prog 239 [.str x0] (.int .i64 r)}) := by
  refine ⟨?g0, ?g1, ?g2, ?g3, ?g4⟩
  case' g0 => (intro x0 x1 x2; apply Subtype.mk; intro r hm; apply pure_walk Tryd.func110 fit_kit_InBytes; unfold sc_kit_InBytes)
  case' g1 => (intro x0 x1; apply Subtype.mk; intro r hm; apply pure_walk Tryd.func173 fit_slices_Index_byte_byte; unfold sc_slices_Index_byte_byte)
  case' g2 => (intro x0; apply Subtype.mk; intro r hm; apply pure_walk Tryd.func116 fit_interchangeref2_mark; unfold sc_interchangeref2_mark)
  case' g3 => (intro x0; apply Subtype.mk; intro r hm; apply pure_walk Tryd.func215 fit_interchangeref2_beginsTag; unfold sc_interchangeref2_beginsTag)
  case' g4 => (intro x0; apply Subtype.mk; intro r hm; apply pure_walk Tryd.func239 fit_interchangeref2_checkText; unfold sc_interchangeref2_checkText)
  all_goals (repeat' (first | with_reducible refine W_seq ?_ | with_reducible refine W_reg ?_ | with_reducible refine W_block ?_ | with_reducible refine W_skip ?_ | with_reducible refine W_ret ?_ | with_reducible refine W_exit ?_ | with_reducible refine O_nil ?_ | with_reducible refine K_seq ?_ | with_reducible refine K_seqE ?_ | with_reducible refine K_seqR ?_ | with_reducible refine K_block ?_ | with_reducible refine K_blockR ?_ | with_reducible refine K_blockE ?_ | ((with_reducible apply K_blockN); decide) | with_reducible refine O_o2r ?_ | ((with_reducible apply O_idxr hm); (iterate 2 (simp only [push_cast, seval]; rfl)); (intro _; rfl); intro e hm) | ((with_reducible apply O_idxVr hm); (iterate 3 (simp only [push_cast, seval]; rfl)); intro e hm) | ((with_reducible apply O_sidxr hm); (iterate 2 (simp only [push_cast, seval]; rfl)); intro e hm) | ((with_reducible apply O_r); (simp only [push_cast, seval]; rfl); (first | exact trivial | omega)) | ((with_reducible apply O_ldV1r hm); (iterate 2 (simp only [push_cast, seval]; rfl)); (intro _; rfl); intro e hm) | ((with_reducible apply O_strr hm); (iterate 2 (simp only [push_cast, seval]; rfl)); intro hm) | ((with_reducible apply O_and hm); (simp only [push_cast, seval]; rfl); rfl; intro v hm; rotate_left; intro v g hm) | ((with_reducible apply O_or hm); (simp only [push_cast, seval]; rfl); rfl; intro v hm; rotate_left; intro v g hm) | ((with_reducible apply W_condT); (focus (simp only [push_cast, seval]; done))) | ((with_reducible apply W_condF); (focus (simp only [push_cast, seval]; done))) | ((with_reducible apply S_condB hm); (simp only [push_cast, seval]; rfl); intro hm; rotate_left; intro hm) | ((with_reducible apply K_endS hm); (focus (simp only [resOf, resL, RV.get, push_cast, seval]; rfl)); (focus ((repeat' (first | rfl | (with_reducible first | apply f_optN | apply f_optS | apply f_some | apply f_tup | apply f_agg | apply f_ptr | apply f_fn | apply dv_slice | apply sv_d | apply f_cons | apply fold_nil | apply fold_cons | apply fold_app | apply f_rowI | apply f_rowY | apply f_rowS | apply f_rowB | apply f_rowL) | (with_reducible apply f_byte; decide))); done))) | ((with_reducible apply K_bool hm); (simp only [push_cast, seval]; rfl)) | ((with_reducible apply K_leave hm); intro r hm) | ((with_reducible apply K_leaveR hm); intro r hm) | ((apply S_loopY (b := 0) (X := sc_kit_InBytes_B1) (x := sc_kit_InBytes_L1) rfl (fun (c : SV × SV × SV × SV) (s : Int) => st [(0, c.1), (1, c.2.1), (2, c.2.2.1), (9, c.2.2.2), (10, .d (.int .i64 s))] []) (c := (_, _, _, _)) (s0 := _) hm); (focus (first | (dsimp only; done) | (dsimp only; rfl) | rfl)); (with_reducible refine Then.mk ?_ ?_)) | ((apply S_loopY (b := 0) (X := sc_slices_Index_byte_byte_B1) (x := sc_slices_Index_byte_byte_L1) rfl (fun (c : SV × SV × SV) (s : Int) => st [(0, c.1), (1, c.2.1), (7, c.2.2), (8, .d (.int .i64 s))] []) (c := (_, _, _)) (s0 := _) hm); (focus (first | (dsimp only; done) | (dsimp only; rfl) | rfl)); (with_reducible refine Then.mk ?_ ?_)) | ((apply S_loopY (b := 0) (X := sc_interchangeref2_beginsTag_B1) (x := sc_interchangeref2_beginsTag_L1) rfl (fun (c : SV) (s : Int) => st [(0, c), (3, .d (.int .i64 s))] []) (c := _) (s0 := _) hm); (focus (first | (dsimp only; done) | (dsimp only; rfl) | rfl)); (with_reducible refine Then.mk ?_ ?_)) | ((apply S_loopY (b := 0) (X := sc_interchangeref2_checkText_B1) (x := sc_interchangeref2_checkText_L1) rfl (fun (c : SV) (s : Int) => st [(0, c), (3, .d (.int .i64 s))] []) (c := _) (s0 := _) hm); (focus (first | (dsimp only; done) | (dsimp only; rfl) | rfl)); (with_reducible refine Then.mk ?_ ?_)) | ((apply K_next (s' := _) hm); (focus (first | (dsimp only; done) | (dsimp only; rfl) | rfl))) | ((apply K_brk (s' := _) hm); (focus (first | (dsimp only; done) | (dsimp only; rfl) | rfl))) | (((with_reducible apply K_brkN hm); (focus decide); intro r hm)) | (((with_reducible apply K_brkR hm); intro r hm)) | (((with_reducible apply LoopB.of); (focus (first | (dsimp only; done) | (dsimp only; rfl) | rfl)); (focus ((intro _; repeat' (first | with_reducible exact impC_end | with_reducible exact impC_endF | with_reducible refine impC_seq ?_ | with_reducible refine impC_block ?_ | ((with_reducible refine impC_rnd ?_); intro _) | ((with_reducible refine impC_brk ?_); intro _))))); (intro s o hm; first | unfold sc_kit_InBytes_L1 | unfold sc_slices_Index_byte_byte_L1 | unfold sc_interchangeref2_beginsTag_L1 | unfold sc_interchangeref2_checkText_L1); rotate_left; intro s hm)) | (((apply imp_stT; (repeat' (first | with_reducible exact keepT_nil | with_reducible exact keepC_nil | with_reducible apply keepT_cons | with_reducible apply keepC_cons | ((with_reducible apply svle_eq); (focus (first | (simp only [push_cast, seval]; rfl) | rfl)); (focus ((repeat' (first | rfl | (with_reducible first | apply f_optN | apply f_optS | apply f_some | apply f_tup | apply f_agg | apply f_ptr | apply f_fn | apply dv_slice | apply sv_d | apply f_cons | apply fold_nil | apply fold_cons | apply fold_app | apply f_rowI | apply f_rowY | apply f_rowS | apply f_rowB | apply f_rowL) | (with_reducible apply f_byte; decide))); done))) | ((with_reducible apply svle_td); (focus (first | (simp only [push_cast, seval]; rfl) | rfl)); (focus (first | (simp only [push_cast, seval]; rfl) | rfl)); (focus ((repeat' (first | rfl | (with_reducible first | apply f_optN | apply f_optS | apply f_some | apply f_tup | apply f_agg | apply f_ptr | apply f_fn | apply dv_slice | apply sv_d | apply f_cons | apply fold_nil | apply fold_cons | apply fold_app | apply f_rowI | apply f_rowY | apply f_rowS | apply f_rowB | apply f_rowL) | (with_reducible apply f_byte; decide))); done))) | ((with_reducible apply chle_eq); (focus (first | (simp only [push_cast, seval]; rfl) | rfl)); (first | with_reducible exact chle_rfl rfl | with_reducible exact chle_map0 | with_reducible apply chle_vec | with_reducible apply chle_box)) | (with_reducible first | apply r_shS | apply r_shI | apply r_rflO | apply r_oneO | apply r_appO | apply r_nilO | apply c_ownN | apply c_ownL | apply vc_rfl | apply vc_nil | apply vc_cons | apply r_rfl | apply r_rows | apply r_nil | apply r_app | apply r_cons | apply c_rowI | apply c_rowY | apply c_rowS | apply c_rowB | apply c_rowL))); done)))))
noncomputable def m_kit_InBytes (x0 : List UInt8) (x1 : UInt8) (x2 : UInt8) : Option (Bool) := (sims_G1_0_0.1 x0 x1 x2).1
theorem spec_kit_InBytes (x0 : List UInt8) (x1 : UInt8) (x2 : UInt8) : ∀ r, m_kit_InBytes x0 x1 x2 = some r → PureSpec Tryd.prog 110 [.str x0, .int .u8 (x1).toNat, .int .u8 (x2).toNat] (.bool r) := (sims_G1_0_0.1 x0 x1 x2).2
noncomputable def m_slices_Index_byte_byte (x0 : List UInt8) (x1 : UInt8) : Option (Int) := (sims_G1_0_0.2.1 x0 x1).1
theorem spec_slices_Index_byte_byte (x0 : List UInt8) (x1 : UInt8) : ∀ r, m_slices_Index_byte_byte x0 x1 = some r → PureSpec Tryd.prog 173 [.slice (List.map rowY x0), .int .u8 (x1).toNat] (.int .i64 r) := (sims_G1_0_0.2.1 x0 x1).2
noncomputable def m_interchangeref2_mark (x0 : UInt8) : Option (Bool) := (sims_G1_0_0.2.2.1 x0).1
theorem spec_interchangeref2_mark (x0 : UInt8) : ∀ r, m_interchangeref2_mark x0 = some r → PureSpec Tryd.prog 116 [.int .u8 (x0).toNat] (.bool r) := (sims_G1_0_0.2.2.1 x0).2
noncomputable def m_interchangeref2_beginsTag (x0 : List UInt8) : Option (Bool) := (sims_G1_0_0.2.2.2.1 x0).1
theorem spec_interchangeref2_beginsTag (x0 : List UInt8) : ∀ r, m_interchangeref2_beginsTag x0 = some r → PureSpec Tryd.prog 215 [.str x0] (.bool r) := (sims_G1_0_0.2.2.2.1 x0).2
noncomputable def m_interchangeref2_checkText (x0 : List UInt8) : Option (Int) := (sims_G1_0_0.2.2.2.2 x0).1
theorem spec_interchangeref2_checkText (x0 : List UInt8) : ∀ r, m_interchangeref2_checkText x0 = some r → PureSpec Tryd.prog 239 [.str x0] (.int .i64 r) := (sims_G1_0_0.2.2.2.2 x0).2

/-- interchange/kit.IsTagPart -/
def sc_kit_IsTagPart : SC :=
  (.seq (.reg [.r 2 (.mv (.c (.d (.bool false))))])
  (.seq (.reg [.r 3 (.mv (.t 0)),
     .c 4 (.f 87) [.t 3, .c (.d (.str [65, 66, 67, 68, 69, 70, 71, 72, 73, 74, 75, 76, 77, 78, 79, 80, 81, 82, 83, 84, 85, 86, 87, 88, 89, 90, 48, 49, 50, 51, 52, 53, 54, 55, 56, 57]))],
     .r 5 (.bin .eql (.t 4) (.c (.d (.str [])))),
     .r 2 (.mv (.t 5))])
  .ret))
theorem fit_kit_IsTagPart : fits Tryd.prog 171 Tryd.f171 sc_kit_IsTagPart [.t 2] 1 = true := by kernel_rfl

/-- slices.Contains[[]byte,byte] -/
def sc_slices_Contains_byte_byte : SC :=
  (.seq (.reg [.r 4 (.mv (.c (.d (.bool false))))])
  (.seq (.reg [.r 5 (.mv (.t 0)),
     .r 6 (.mv (.t 1)),
     .c 7 (.f 173) [.t 5, .t 6],
     .r 8 (.bin .geq (.t 7) (.c (.d (.int .i64 0)))),
     .r 4 (.mv (.t 8))])
  .ret))
theorem fit_slices_Contains_byte_byte : fits Tryd.prog 113 Tryd.f113 sc_slices_Contains_byte_byte [.t 4] 2 = true := by kernel_rfl

/-- interchange/kit.IsText -/
def sc_kit_IsText : SC :=
  (.seq (.reg [.r 2 (.mv (.c (.d (.bool false))))])
  (.seq (.reg (.r 3 (.mv (.t 0)) :: .r 4 (.lenT (.t 3)) :: .r 5 (.bin .leq (.t 4) (.c (.d (.int .i64 1000)))) :: .r 6 (.mv (.t 5)) :: gapp [7, 8] 6 true (.r 7 (.mv (.t 0)) :: .c 8 (.f 110) [.t 7, .c (.d (.int .u8 32)), .c (.d (.int .u8 126))] :: []) (.r 9 (.pick (.t 6) (.t 8) (.c (.d (.bool false)))) :: .r 2 (.mv (.t 9)) :: [])))
  .ret))
theorem fit_kit_IsText : fits Tryd.prog 238 Tryd.f238 sc_kit_IsText [.t 2] 1 = true := by kernel_rfl

def sc_interchangeref2_CheckMarks_L1 : SC :=
  (.seq (.seq (.reg [.r 56 (.mv (.t 5)),
     .r 57 (.mv (.t 4)),
     .r 58 (.bin .lss (.t 56) (.t 57))])
  (.cond (.t 58)
    .skip
    (.exit 2)))
  (.seq (.block 3 (.seq (.regD [.r 61 (.mv (.t 3)),
       .r 62 (.mv (.t 4)),
       .r 63 (.idx 1 (.t 61) (.t 62)),
       .r 64 (.ld1 (.t 63)),
       .r 65 (.mv (.t 3)),
       .r 66 (.mv (.t 5)),
       .r 67 (.idx 1 (.t 65) (.t 66)),
       .r 68 (.ld1 (.t 67)),
       .r 69 (.bin .eql (.t 64) (.t 68))])
    (.cond (.t 69)
      (.seq (.reg [.r 2 (.mv (.c (.d (.int .i64 7))))])
      .ret)
      .skip)))
  (.reg [.r 59 (.mv (.t 5)),
     .r 60 (.bin .add (.t 59) (.c (.d (.int .i64 1)))),
     .r 5 (.mv (.t 60))])))
def sc_interchangeref2_CheckMarks_B1 : SC := .block 2 (.loop sc_interchangeref2_CheckMarks_L1)
def sc_interchangeref2_CheckMarks_L2 : SC :=
  (.seq (.seq (.reg [.r 50 (.mv (.t 4)),
     .r 51 (.mv (.t 3)),
     .r 52 (.len (.t 51)),
     .r 53 (.bin .lss (.t 50) (.t 52))])
  (.cond (.t 53)
    .skip
    (.exit 0)))
  (.seq (.block 1 (.seq (.reg [.r 5 (.mv (.c (.d (.int .i64 0))))])
    sc_interchangeref2_CheckMarks_B1))
  (.reg [.r 54 (.mv (.t 4)),
     .r 55 (.bin .add (.t 54) (.c (.d (.int .i64 1)))),
     .r 4 (.mv (.t 55))])))
def sc_interchangeref2_CheckMarks_B2 : SC := .block 0 (.loop sc_interchangeref2_CheckMarks_L2)
/-- interchange/interchangeref2.CheckMarks -/
def sc_interchangeref2_CheckMarks : SC :=
  (.seq (.reg [.r 1 (.boxI (.t 0)),
     .r 2 (.mv (.c (.d (.int .i64 0))))])
  (.seq (.seq (.reg (.r 6 (.fld 0 (.t 1)) :: .o 7 (.ld1 (.t 6)) :: .c 8 (.f 116) [.t 7] :: .r 9 (.not (.t 8)) :: .r 10 (.mv (.t 9)) :: gapp [11, 12, 13, 14] 10 false (.r 11 (.fld 1 (.t 1)) :: .r 12 (.ld1 (.t 11)) :: .c 13 (.f 116) [.t 12] :: .r 14 (.not (.t 13)) :: []) (.r 15 (.pick (.t 10) (.c (.d (.bool true))) (.t 14)) :: .r 16 (.mv (.t 15)) :: gapp [17, 18, 19, 20] 16 false (.r 17 (.fld 2 (.t 1)) :: .r 18 (.ld1 (.t 17)) :: .c 19 (.f 116) [.t 18] :: .r 20 (.not (.t 19)) :: []) (.r 21 (.pick (.t 16) (.c (.d (.bool true))) (.t 20)) :: .r 22 (.mv (.t 21)) :: gapp [23, 24, 25, 26] 22 false (.r 23 (.fld 4 (.t 1)) :: .r 24 (.ld1 (.t 23)) :: .c 25 (.f 116) [.t 24] :: .r 26 (.not (.t 25)) :: []) (.r 27 (.pick (.t 22) (.c (.d (.bool true))) (.t 26)) :: .r 28 (.mv (.t 27)) :: gapp [29, 30, 31, 32, 33, 34, 35, 36, 37] 28 false (.r 29 (.fld 3 (.t 1)) :: .r 30 (.ld1 (.t 29)) :: .r 31 (.bin .neq (.t 30) (.c (.d (.int .u8 0)))) :: .r 32 (.mv (.t 31)) :: gapp [33, 34, 35, 36] 32 true (.r 33 (.fld 3 (.t 1)) :: .r 34 (.ld1 (.t 33)) :: .c 35 (.f 116) [.t 34] :: .r 36 (.not (.t 35)) :: []) (.r 37 (.pick (.t 32) (.t 36) (.c (.d (.bool false)))) :: [])) (.r 38 (.pick (.t 28) (.c (.d (.bool true))) (.t 37)) :: []))))))
  (.cond (.t 38)
    (.seq (.reg [.r 2 (.mv (.c (.d (.int .i64 3))))])
    .ret)
    .skip))
  (.seq (.reg [.r 39 (.fld 0 (.t 1)),
     .o 40 (.ld1 (.t 39)),
     .r 41 (.fld 1 (.t 1)),
     .o 42 (.ld1 (.t 41)),
     .r 43 (.fld 2 (.t 1)),
     .o 44 (.ld1 (.t 43)),
     .r 45 (.fld 3 (.t 1)),
     .o 46 (.ld1 (.t 45)),
     .r 47 (.fld 4 (.t 1)),
     .o 48 (.ld1 (.t 47)),
     .r 49 (.bslice 1 [.t 40, .t 42, .t 44, .t 46, .t 48]),
     .r 3 (.mv (.t 49))])
  (.seq (.seq (.reg [.r 4 (.mv (.c (.d (.int .i64 0))))])
  sc_interchangeref2_CheckMarks_B2)
  (.seq (.reg [.r 2 (.mv (.c (.d (.int .i64 0))))])
  .ret)))))
theorem fit_interchangeref2_CheckMarks : fits Tryd.prog 81 Tryd.f81 sc_interchangeref2_CheckMarks [.t 2] 1 = true := by kernel_rfl

/-- interchange/interchangeref2.IsTag -/
def sc_interchangeref2_IsTag : SC :=
  (.seq (.reg [.r 2 (.mv (.c (.d (.bool false))))])
  (.seq (.reg (.r 3 (.mv (.t 0)) :: .r 4 (.lenT (.t 3)) :: .r 5 (.bin .geq (.t 4) (.c (.d (.int .i64 2)))) :: .r 6 (.mv (.t 5)) :: gapp [7, 8] 6 true (.r 7 (.mv (.t 0)) :: .c 8 (.f 215) [.t 7] :: []) (.r 9 (.pick (.t 6) (.t 8) (.c (.d (.bool false)))) :: .r 2 (.mv (.t 9)) :: [])))
  .ret))
theorem fit_interchangeref2_IsTag : fits Tryd.prog 195 Tryd.f195 sc_interchangeref2_IsTag [.t 2] 1 = true := by kernel_rfl

def sc_interchangeref2_checkElement_L1 : SC :=
  (.seq (.seq (.reg [.r 35 (.mv (.t 4)),
     .r 36 (.fld 0 (.t 1)),
     .o 37 (.ld1 (.t 36)),
     .r 38 (.mv (.t 3)),
     .r 39 (.idx 1 (.t 37) (.t 38)),
     .o 40 (.ld1 (.t 39)),
     .r 41 (.len (.t 40)),
     .r 42 (.bin .lss (.t 35) (.t 41))])
  (.cond (.t 42)
    .skip
    (.exit 2)))
  (.seq (.block 3 (.seq (.reg [.r 45 (.fld 0 (.t 1)),
       .o 46 (.ld1 (.t 45)),
       .r 47 (.mv (.t 3)),
       .r 48 (.idx 1 (.t 46) (.t 47)),
       .o 49 (.ld1 (.t 48)),
       .r 50 (.mv (.t 4)),
       .r 51 (.idx 1 (.t 49) (.t 50)),
       .o 52 (.ld1 (.t 51)),
       .c 53 (.f 239) [.t 52],
       .r 5 (.mv (.t 53))])
    (.seq (.reg [.r 54 (.mv (.t 5)),
       .r 55 (.bin .neq (.t 54) (.c (.d (.int .i64 0))))])
    (.cond (.t 55)
      (.seq (.reg [.r 56 (.mv (.t 5)),
         .r 2 (.mv (.t 56))])
      .ret)
      .skip))))
  (.reg [.r 43 (.mv (.t 4)),
     .r 44 (.bin .add (.t 43) (.c (.d (.int .i64 1)))),
     .r 4 (.mv (.t 44))])))
def sc_interchangeref2_checkElement_B1 : SC := .block 2 (.loop sc_interchangeref2_checkElement_L1)
def sc_interchangeref2_checkElement_L2 : SC :=
  (.seq (.seq (.reg [.r 14 (.mv (.t 3)),
     .r 15 (.fld 0 (.t 1)),
     .o 16 (.ld1 (.t 15)),
     .r 17 (.len (.t 16)),
     .r 18 (.bin .lss (.t 14) (.t 17))])
  (.cond (.t 18)
    .skip
    (.exit 0)))
  (.seq (.block 1 (.seq (.seq (.reg [.r 21 (.fld 0 (.t 1)),
       .o 22 (.ld1 (.t 21)),
       .r 23 (.mv (.t 3)),
       .r 24 (.idx 1 (.t 22) (.t 23)),
       .o 25 (.ld1 (.t 24)),
       .r 26 (.len (.t 25)),
       .r 27 (.bin .eql (.t 26) (.c (.d (.int .i64 0))))])
    (.cond (.t 27)
      (.seq (.reg [.r 2 (.mv (.c (.d (.int .i64 9))))])
      .ret)
      .skip))
    (.seq (.seq (.reg [.r 28 (.fld 0 (.t 1)),
       .o 29 (.ld1 (.t 28)),
       .r 30 (.mv (.t 3)),
       .r 31 (.idx 1 (.t 29) (.t 30)),
       .o 32 (.ld1 (.t 31)),
       .r 33 (.len (.t 32)),
       .r 34 (.bin .gtr (.t 33) (.c (.d (.int .i64 20))))])
    (.cond (.t 34)
      (.seq (.reg [.r 2 (.mv (.c (.d (.int .i64 2))))])
      .ret)
      .skip))
    (.seq (.reg [.r 4 (.mv (.c (.d (.int .i64 0))))])
    sc_interchangeref2_checkElement_B1))))
  (.reg [.r 19 (.mv (.t 3)),
     .r 20 (.bin .add (.t 19) (.c (.d (.int .i64 1)))),
     .r 3 (.mv (.t 20))])))
def sc_interchangeref2_checkElement_B2 : SC := .block 0 (.loop sc_interchangeref2_checkElement_L2)
/-- interchange/interchangeref2.checkElement -/
def sc_interchangeref2_checkElement : SC :=
  (.seq (.reg [.r 1 (.boxI (.t 0)),
     .r 2 (.mv (.c (.d (.int .i64 0))))])
  (.seq (.seq (.reg [.r 6 (.fld 0 (.t 1)),
     .o 7 (.ld1 (.t 6)),
     .r 8 (.len (.t 7)),
     .r 9 (.bin .eql (.t 8) (.c (.d (.int .i64 0))))])
  (.cond (.t 9)
    (.seq (.reg [.r 2 (.mv (.c (.d (.int .i64 9))))])
    .ret)
    .skip))
  (.seq (.seq (.reg [.r 10 (.fld 0 (.t 1)),
     .o 11 (.ld1 (.t 10)),
     .r 12 (.len (.t 11)),
     .r 13 (.bin .gtr (.t 12) (.c (.d (.int .i64 20))))])
  (.cond (.t 13)
    (.seq (.reg [.r 2 (.mv (.c (.d (.int .i64 2))))])
    .ret)
    .skip))
  (.seq (.seq (.reg [.r 3 (.mv (.c (.d (.int .i64 0))))])
  sc_interchangeref2_checkElement_B2)
  (.seq (.reg [.r 2 (.mv (.c (.d (.int .i64 0))))])
  .ret)))))
theorem fit_interchangeref2_checkElement : fits Tryd.prog 217 Tryd.f217 sc_interchangeref2_checkElement [.t 2] 1 = true := by kernel_rfl

set_option maxRecDepth 100000 in
set_option maxHeartbeats 40000000 in
noncomputable def sims_G1_1_0 : (∀ (x0 : List UInt8), {m : Option (Bool) // ∀ r, m = some r → PureSpec Tryd.prog 171 [.str x0] (.bool r)}) × (∀ (x0 : List UInt8) (x1 : UInt8), {m : Option (Bool) // ∀ r, m = some r → PureSpec Tryd.prog 113 [.slice (List.map rowY x0), .int .u8 (x1).toNat] (.bool r)}) × (∀ (x0 : List UInt8), {m : Option (Bool) // ∀ r, m = some r → PureSpec Tryd.prog 238 [.str x0] (.bool r)}) × (∀ (x0 : Tapi_Marks), {m : Option (Int) // ∀ r, m = some r → PureSpec Tryd.prog 81 [.agg (rTapi_Marks x0)] (.int .i64 r)}) × (∀ (x0 : List UInt8), {m : Option (Bool) // ∀ r, m = some r → PureSpec Tryd.prog 195 [.str x0] (.bool r)}) × (∀ (x0 : Tapi_Element), {m : Option (Int) // ∀ r, m = some r → PureSpec Tryd.prog 217 [.agg (rTapi_Element x0)] (.int .i64 r)}) := by
  refine ⟨?g0, ?g1, ?g2, ?g3, ?g4, ?g5⟩
  case' g0 => (intro x0; apply Subtype.mk; intro r hm; apply pure_walk Tryd.func171 fit_kit_IsTagPart; unfold sc_kit_IsTagPart)
  case' g1 => (intro x0 x1; apply Subtype.mk; intro r hm; apply pure_walk Tryd.func113 fit_slices_Contains_byte_byte; unfold sc_slices_Contains_byte_byte)
  case' g2 => (intro x0; apply Subtype.mk; intro r hm; apply pure_walk Tryd.func238 fit_kit_IsText; unfold sc_kit_IsText)
  case' g3 => (intro x0; apply Subtype.mk; intro r hm; apply pure_walk Tryd.func81 fit_interchangeref2_CheckMarks; unfold sc_interchangeref2_CheckMarks)
  case' g4 => (intro x0; apply Subtype.mk; intro r hm; apply pure_walk Tryd.func195 fit_interchangeref2_IsTag; unfold sc_interchangeref2_IsTag)
  case' g5 => (intro x0; apply Subtype.mk; intro r hm; apply pure_walk Tryd.func217 fit_interchangeref2_checkElement; unfold sc_interchangeref2_checkElement)
  all_goals (repeat' (first | with_reducible refine W_seq ?_ | with_reducible refine W_reg ?_ | with_reducible refine W_regD ?_ | with_reducible refine W_block ?_ | with_reducible refine W_skip ?_ | with_reducible refine W_ret ?_ | with_reducible refine W_exit ?_ | with_reducible refine O_nil ?_ | with_reducible refine K_seq ?_ | with_reducible refine K_seqE ?_ | with_reducible refine K_seqR ?_ | with_reducible refine K_block ?_ | with_reducible refine K_blockR ?_ | with_reducible refine K_blockE ?_ | ((with_reducible apply K_blockN); decide) | with_reducible refine O_o2r ?_ | ((with_reducible apply O_idxr hm); (iterate 2 (simp only [push_cast, seval]; rfl)); (intro _; rfl); intro e hm) | ((with_reducible apply O_idxVr hm); (iterate 3 (simp only [push_cast, seval]; rfl)); intro e hm) | ((with_reducible apply O_idxLr hm (row := rowY)); (iterate 2 (simp only [push_cast, seval]; rfl)); (focus ((repeat' (first | rfl | (with_reducible first | apply fT_Tapi_Marks | apply fT_Tapi_Element | apply f_optN | apply f_optS | apply f_some | apply f_tup | apply f_agg | apply f_ptr | apply f_fn | apply dv_slice | apply sv_d | apply f_cons | apply fold_nil | apply fold_cons | apply fold_app | apply f_rowI | apply f_rowY | apply f_rowS | apply f_rowB | apply f_rowL) | (with_reducible apply f_byte; decide))); done)); (simp only [push_cast, seval]; rfl); (intro _; rfl); intro e hm) | ((with_reducible apply O_r); (simp only [push_cast, seval]; rfl); (first | exact trivial | omega)) | ((with_reducible apply O_ldV1r hm); (iterate 2 (simp only [push_cast, seval]; rfl)); (intro _; rfl); intro e hm) | ((with_reducible apply O_strr hm); (iterate 2 (simp only [push_cast, seval]; rfl)); intro hm) | ((with_reducible apply O_and hm); (simp only [push_cast, seval]; rfl); rfl; intro v hm; rotate_left; intro v g hm) | ((with_reducible apply O_or hm); (simp only [push_cast, seval]; rfl); rfl; intro v hm; rotate_left; intro v g hm) | ((with_reducible apply W_condT); (focus (simp only [push_cast, seval]; done))) | ((with_reducible apply W_condF); (focus (simp only [push_cast, seval]; done))) | ((with_reducible apply O_cF hm); (simp only [push_cast, seval]; rfl); (first | apply spec_strings_Trim _ _ | apply spec_slices_Index_byte_byte _ _ | apply spec_kit_InBytes _ _ _ | apply spec_interchangeref2_mark _ | apply spec_interchangeref2_beginsTag _ | apply spec_interchangeref2_checkText _); (any_goals ((repeat' (first | rfl | (with_reducible first | apply fT_Tapi_Marks | apply fT_Tapi_Element | apply f_optN | apply f_optS | apply f_some | apply f_tup | apply f_agg | apply f_ptr | apply f_fn | apply dv_slice | apply sv_d | apply f_cons | apply fold_nil | apply fold_cons | apply fold_app | apply f_rowI | apply f_rowY | apply f_rowS | apply f_rowB | apply f_rowL) | (with_reducible apply f_byte; decide))); done)); intro x hm) | ((with_reducible apply S_condB hm); (simp only [push_cast, seval]; rfl); intro hm; rotate_left; intro hm) | ((with_reducible apply K_endS hm); (focus (simp only [resOf, resL, RV.get, push_cast, seval]; rfl)); (focus ((repeat' (first | rfl | (with_reducible first | apply fT_Tapi_Marks | apply fT_Tapi_Element | apply f_optN | apply f_optS | apply f_some | apply f_tup | apply f_agg | apply f_ptr | apply f_fn | apply dv_slice | apply sv_d | apply f_cons | apply fold_nil | apply fold_cons | apply fold_app | apply f_rowI | apply f_rowY | apply f_rowS | apply f_rowB | apply f_rowL) | (with_reducible apply f_byte; decide))); done))) | ((with_reducible apply K_bool hm); (simp only [push_cast, seval]; rfl)) | ((with_reducible apply K_leave hm); intro r hm) | ((with_reducible apply K_leaveR hm); intro r hm) | ((apply S_loopY (b := 2) (X := sc_interchangeref2_CheckMarks_B1) (x := sc_interchangeref2_CheckMarks_L1) rfl (fun (c : SV × SV) (s : Int) => st [(3, c.1), (4, c.2), (5, .d (.int .i64 s))] []) (c := (_, _)) (s0 := _) hm); (focus (first | (dsimp only; done) | (dsimp only; rfl) | rfl)); (with_reducible refine Then.mk ?_ ?_)) | ((apply S_loopY (b := 0) (X := sc_interchangeref2_CheckMarks_B2) (x := sc_interchangeref2_CheckMarks_L2) rfl (fun (c : SV) (s : Int) => st [(3, c), (4, .d (.int .i64 s))] []) (c := _) (s0 := _) hm); (focus (first | (dsimp only; done) | (dsimp only; rfl) | rfl)); (with_reducible refine Then.mk ?_ ?_)) | ((apply S_loopY (b := 2) (X := sc_interchangeref2_checkElement_B1) (x := sc_interchangeref2_checkElement_L1) rfl (fun (c : SV × SV) (s : Int) => st [(1, c.1), (3, c.2), (4, .d (.int .i64 s))] []) (c := (_, _)) (s0 := _) hm); (focus (first | (dsimp only; done) | (dsimp only; rfl) | rfl)); (with_reducible refine Then.mk ?_ ?_)) | ((apply S_loopY (b := 0) (X := sc_interchangeref2_checkElement_B2) (x := sc_interchangeref2_checkElement_L2) rfl (fun (c : SV) (s : Int) => st [(1, c), (3, .d (.int .i64 s))] []) (c := _) (s0 := _) hm); (focus (first | (dsimp only; done) | (dsimp only; rfl) | rfl)); (with_reducible refine Then.mk ?_ ?_)) | ((apply K_next (s' := _) hm); (focus (first | (dsimp only; done) | (dsimp only; rfl) | rfl))) | ((apply K_brk (s' := _) hm); (focus (first | (dsimp only; done) | (dsimp only; rfl) | rfl))) | (((with_reducible apply K_brkN hm); (focus decide); intro r hm)) | (((with_reducible apply K_brkR hm); intro r hm)) | (((with_reducible apply LoopB.of); (focus (first | (dsimp only; done) | (dsimp only; rfl) | rfl)); (focus ((intro _; repeat' (first | with_reducible exact impC_end | with_reducible exact impC_endF | with_reducible refine impC_seq ?_ | with_reducible refine impC_block ?_ | ((with_reducible refine impC_rnd ?_); intro _) | ((with_reducible refine impC_brk ?_); intro _))))); (intro s o hm; first | unfold sc_interchangeref2_CheckMarks_L1 | unfold sc_interchangeref2_CheckMarks_L2 | unfold sc_interchangeref2_checkElement_L1 | unfold sc_interchangeref2_checkElement_L2); rotate_left; intro s hm)) | (((apply imp_stT; (repeat' (first | with_reducible exact keepT_nil | with_reducible exact keepC_nil | with_reducible apply keepT_cons | with_reducible apply keepC_cons | ((with_reducible apply svle_eq); (focus (first | (simp only [push_cast, seval]; rfl) | rfl)); (focus ((repeat' (first | rfl | (with_reducible first | apply fT_Tapi_Marks | apply fT_Tapi_Element | apply f_optN | apply f_optS | apply f_some | apply f_tup | apply f_agg | apply f_ptr | apply f_fn | apply dv_slice | apply sv_d | apply f_cons | apply fold_nil | apply fold_cons | apply fold_app | apply f_rowI | apply f_rowY | apply f_rowS | apply f_rowB | apply f_rowL) | (with_reducible apply f_byte; decide))); done))) | ((with_reducible apply svle_td); (focus (first | (simp only [push_cast, seval]; rfl) | rfl)); (focus (first | (simp only [push_cast, seval]; rfl) | rfl)); (focus ((repeat' (first | rfl | (with_reducible first | apply fT_Tapi_Marks | apply fT_Tapi_Element | apply f_optN | apply f_optS | apply f_some | apply f_tup | apply f_agg | apply f_ptr | apply f_fn | apply dv_slice | apply sv_d | apply f_cons | apply fold_nil | apply fold_cons | apply fold_app | apply f_rowI | apply f_rowY | apply f_rowS | apply f_rowB | apply f_rowL) | (with_reducible apply f_byte; decide))); done))) | ((with_reducible apply chle_eq); (focus (first | (simp only [push_cast, seval]; rfl) | rfl)); (first | with_reducible exact chle_rfl rfl | with_reducible exact chle_map0 | with_reducible apply chle_vec | with_reducible apply chle_box)) | (with_reducible first | apply cT_Tapi_Marks | apply cT_Tapi_Element | apply r_shS | apply r_shI | apply r_rflO | apply r_oneO | apply r_appO | apply r_nilO | apply c_ownN | apply c_ownL | apply vc_rfl | apply vc_nil | apply vc_cons | apply r_rfl | apply r_rows | apply r_nil | apply r_app | apply r_cons | apply c_rowI | apply c_rowY | apply c_rowS | apply c_rowB | apply c_rowL))); done)))))
noncomputable def m_kit_IsTagPart (x0 : List UInt8) : Option (Bool) := (sims_G1_1_0.1 x0).1
theorem spec_kit_IsTagPart (x0 : List UInt8) : ∀ r, m_kit_IsTagPart x0 = some r → PureSpec Tryd.prog 171 [.str x0] (.bool r) := (sims_G1_1_0.1 x0).2
noncomputable def m_kit_IsText (x0 : List UInt8) : Option (Bool) := (sims_G1_1_0.2.2.1 x0).1
theorem spec_kit_IsText (x0 : List UInt8) : ∀ r, m_kit_IsText x0 = some r → PureSpec Tryd.prog 238 [.str x0] (.bool r) := (sims_G1_1_0.2.2.1 x0).2
noncomputable def m_interchangeref2_IsTag (x0 : List UInt8) : Option (Bool) := (sims_G1_1_0.2.2.2.2.1 x0).1
theorem spec_interchangeref2_IsTag (x0 : List UInt8) : ∀ r, m_interchangeref2_IsTag x0 = some r → PureSpec Tryd.prog 195 [.str x0] (.bool r) := (sims_G1_1_0.2.2.2.2.1 x0).2
noncomputable def m_interchangeref2_checkElement (x0 : Tapi_Element) : Option (Int) := (sims_G1_1_0.2.2.2.2.2 x0).1
theorem spec_interchangeref2_checkElement (x0 : Tapi_Element) : ∀ r, m_interchangeref2_checkElement x0 = some r → PureSpec Tryd.prog 217 [.agg (rTapi_Element x0)] (.int .i64 r) := (sims_G1_1_0.2.2.2.2.2 x0).2

/-- interchange/wire.isMarkByte -/
def sc_wire_isMarkByte : SC :=
  (.seq (.reg [.r 2 (.mv (.c (.d (.bool false))))])
  (.seq (.reg [.r 4 (.mv (.t 0)),
     .r 5 (.cvis (.t 4)),
     .r 3 (.mv (.t 5))])
  (.seq (.reg (.r 6 (.mv (.t 0)) :: .r 7 (.bin .geq (.t 6) (.c (.d (.int .u8 33)))) :: .r 8 (.mv (.t 7)) :: gapp [9, 10] 8 true (.r 9 (.mv (.t 0)) :: .r 10 (.bin .leq (.t 9) (.c (.d (.int .u8 126)))) :: []) (.r 11 (.pick (.t 8) (.t 10) (.c (.d (.bool false)))) :: .r 12 (.mv (.t 11)) :: gapp [13, 14, 15] 12 true (.r 13 (.mv (.t 3)) :: .c 14 (.f 171) [.t 13] :: .r 15 (.not (.t 14)) :: []) (.r 16 (.pick (.t 12) (.t 15) (.c (.d (.bool false)))) :: .r 17 (.mv (.t 16)) :: gapp [18, 19, 20] 17 true (.r 18 (.mv (.t 3)) :: .c 19 (.f 110) [.t 18, .c (.d (.int .u8 97)), .c (.d (.int .u8 122))] :: .r 20 (.not (.t 19)) :: []) (.r 21 (.pick (.t 17) (.t 20) (.c (.d (.bool false)))) :: .r 22 (.mv (.t 21)) :: gapp [23, 24, 25] 22 true (.r 23 (.mv (.t 3)) :: .c 24 (.f 172) [.t 23, .c (.d (.str [46, 45, 43, 95]))] :: .r 25 (.not (.t 24)) :: []) (.r 26 (.pick (.t 22) (.t 25) (.c (.d (.bool false)))) :: .r 2 (.mv (.t 26)) :: []))))))
  .ret)))
theorem fit_wire_isMarkByte : fits Tryd.prog 112 Tryd.f112 sc_wire_isMarkByte [.t 2] 1 = true := by kernel_rfl

/-- interchange/kit.IsTag -/
def sc_kit_IsTag : SC :=
  (.seq (.reg [.r 2 (.mv (.c (.d (.bool false))))])
  (.seq (.reg (.r 3 (.mv (.t 0)) :: .r 4 (.lenT (.t 3)) :: .r 5 (.bin .geq (.t 4) (.c (.d (.int .i64 2)))) :: .r 6 (.mv (.t 5)) :: gapp [7, 8, 9] 6 true (.r 7 (.mv (.t 0)) :: .r 8 (.lenT (.t 7)) :: .r 9 (.bin .leq (.t 8) (.c (.d (.int .i64 6)))) :: []) (.r 10 (.pick (.t 6) (.t 9) (.c (.d (.bool false)))) :: .r 11 (.mv (.t 10)) :: gapp [12, 13, 14, 15] 11 true (.r 12 (.mv (.t 0)) :: .r 13 (.sidx (.t 12) (.c (.d (.int .i64 0)))) :: .c 14 (.f 213) [.c (.d (.str [65, 66, 67, 68, 69, 70, 71, 72, 73, 74, 75, 76, 77, 78, 79, 80, 81, 82, 83, 84, 85, 86, 87, 88, 89, 90])), .t 13] :: .r 15 (.bin .geq (.t 14) (.c (.d (.int .i64 0)))) :: []) (.r 16 (.pick (.t 11) (.t 15) (.c (.d (.bool false)))) :: .r 17 (.mv (.t 16)) :: gapp [18, 19] 17 true (.r 18 (.mv (.t 0)) :: .c 19 (.f 171) [.t 18] :: []) (.r 20 (.pick (.t 17) (.t 19) (.c (.d (.bool false)))) :: .r 2 (.mv (.t 20)) :: [])))))
  .ret))
theorem fit_kit_IsTag : fits Tryd.prog 176 Tryd.f176 sc_kit_IsTag [.t 2] 1 = true := by kernel_rfl

/-- interchange/wire.textFault -/
def sc_wire_textFault : SC :=
  (.seq (.reg [.r 2 (.mv (.c (.d (.int .i64 0))))])
  (.seq (.seq (.reg [.r 3 (.mv (.t 0)),
     .r 4 (.lenT (.t 3)),
     .r 5 (.bin .gtr (.t 4) (.c (.d (.int .i64 1000))))])
  (.cond (.t 5)
    (.seq (.reg [.r 2 (.mv (.c (.d (.int .i64 2))))])
    .ret)
    .skip))
  (.seq (.seq (.reg [.r 6 (.mv (.t 0)),
     .c 7 (.f 238) [.t 6],
     .r 8 (.not (.t 7))])
  (.cond (.t 8)
    (.seq (.reg [.r 2 (.mv (.c (.d (.int .i64 3))))])
    .ret)
    .skip))
  (.seq (.reg [.r 2 (.mv (.c (.d (.int .i64 0))))])
  .ret))))
theorem fit_wire_textFault : fits Tryd.prog 214 Tryd.f214 sc_wire_textFault [.t 2] 1 = true := by kernel_rfl

def sc_interchangeref2_CheckOne_L1 : SC :=
  (.seq (.seq (.reg [.r 13 (.mv (.t 3)),
     .r 14 (.fld 1 (.t 1)),
     .o 15 (.ld1 (.t 14)),
     .r 16 (.len (.t 15)),
     .r 17 (.bin .lss (.t 13) (.t 16))])
  (.cond (.t 17)
    .skip
    (.exit 0)))
  (.seq (.block 1 (.seq (.reg [.r 20 (.fld 1 (.t 1)),
       .o 21 (.ld1 (.t 20)),
       .r 22 (.mv (.t 3)),
       .r 23 (.idx 1 (.t 21) (.t 22)),
       .o 24 (.ldA 1 (.t 23)),
       .c 25 (.f 217) [.t 24],
       .r 4 (.mv (.t 25))])
    (.seq (.reg [.r 26 (.mv (.t 4)),
       .r 27 (.bin .neq (.t 26) (.c (.d (.int .i64 0))))])
    (.cond (.t 27)
      (.seq (.reg [.r 28 (.mv (.t 4)),
         .r 2 (.mv (.t 28))])
      .ret)
      .skip))))
  (.reg [.r 18 (.mv (.t 3)),
     .r 19 (.bin .add (.t 18) (.c (.d (.int .i64 1)))),
     .r 3 (.mv (.t 19))])))
def sc_interchangeref2_CheckOne_B1 : SC := .block 0 (.loop sc_interchangeref2_CheckOne_L1)
/-- interchange/interchangeref2.CheckOne -/
def sc_interchangeref2_CheckOne : SC :=
  (.seq (.reg [.r 1 (.boxI (.t 0)),
     .r 2 (.mv (.c (.d (.int .i64 0))))])
  (.seq (.seq (.reg [.r 5 (.fld 0 (.t 1)),
     .o 6 (.ld1 (.t 5)),
     .c 7 (.f 195) [.t 6],
     .r 8 (.not (.t 7))])
  (.cond (.t 8)
    (.seq (.reg [.r 2 (.mv (.c (.d (.int .i64 5))))])
    .ret)
    .skip))
  (.seq (.seq (.reg [.r 9 (.fld 1 (.t 1)),
     .o 10 (.ld1 (.t 9)),
     .r 11 (.len (.t 10)),
     .r 12 (.bin .gtr (.t 11) (.c (.d (.int .i64 50))))])
  (.cond (.t 12)
    (.seq (.reg [.r 2 (.mv (.c (.d (.int .i64 2))))])
    .ret)
    .skip))
  (.seq (.seq (.reg [.r 3 (.mv (.c (.d (.int .i64 0))))])
  sc_interchangeref2_CheckOne_B1)
  (.seq (.reg [.r 2 (.mv (.c (.d (.int .i64 0))))])
  .ret)))))
theorem fit_interchangeref2_CheckOne : fits Tryd.prog 180 Tryd.f180 sc_interchangeref2_CheckOne [.t 2] 1 = true := by kernel_rfl

set_option maxRecDepth 100000 in
set_option maxHeartbeats 40000000 in
noncomputable def sims_G1_2_0 : (∀ (x0 : UInt8), {m : Option (Bool) // ∀ r, m = some r → PureSpec Tryd.prog 112 [.int .u8 (x0).toNat] (.bool r)}) × (∀ (x0 : List UInt8), {m : Option (Bool) // ∀ r, m = some r → PureSpec Tryd.prog 176 [.str x0] (.bool r)}) × (∀ (x0 : List UInt8), {m : Option (Int) // ∀ r, m = some r → PureSpec Tryd.prog 214 [.str x0] (.int .i64 r)}) × (∀ (x0 : Tapi_Segment), {m : Option (Int) // ∀ r, m = some r → PureSpec Tryd.prog 180 [.agg (rTapi_Segment x0)] (.int .i64 r)}) := by
  refine ⟨?g0, ?g1, ?g2, ?g3⟩
  case' g0 => (intro x0; apply Subtype.mk; intro r hm; apply pure_walk Tryd.func112 fit_wire_isMarkByte; unfold sc_wire_isMarkByte)
  case' g1 => (intro x0; apply Subtype.mk; intro r hm; apply pure_walk Tryd.func176 fit_kit_IsTag; unfold sc_kit_IsTag)
  case' g2 => (intro x0; apply Subtype.mk; intro r hm; apply pure_walk Tryd.func214 fit_wire_textFault; unfold sc_wire_textFault)
  case' g3 => (intro x0; apply Subtype.mk; intro r hm; apply pure_walk Tryd.func180 fit_interchangeref2_CheckOne; unfold sc_interchangeref2_CheckOne)
  all_goals (repeat' (first | with_reducible refine W_seq ?_ | with_reducible refine W_reg ?_ | with_reducible refine W_block ?_ | with_reducible refine W_skip ?_ | with_reducible refine W_ret ?_ | with_reducible refine W_exit ?_ | with_reducible refine O_nil ?_ | with_reducible refine K_seq ?_ | with_reducible refine K_seqE ?_ | with_reducible refine K_seqR ?_ | with_reducible refine K_block ?_ | with_reducible refine K_blockR ?_ | with_reducible refine K_blockE ?_ | ((with_reducible apply K_blockN); decide) | with_reducible refine O_o2r ?_ | ((with_reducible apply O_idxr hm); (iterate 2 (simp only [push_cast, seval]; rfl)); (intro _; rfl); intro e hm) | ((with_reducible apply O_idxVr hm); (iterate 3 (simp only [push_cast, seval]; rfl)); intro e hm) | ((with_reducible apply O_sidxr hm); (iterate 2 (simp only [push_cast, seval]; rfl)); intro e hm) | ((with_reducible apply O_r); (simp only [push_cast, seval]; rfl); (first | exact trivial | omega)) | ((with_reducible apply O_ldV1r hm); (iterate 2 (simp only [push_cast, seval]; rfl)); (intro _; rfl); intro e hm) | ((with_reducible apply O_ldAVr hm); (iterate 2 (simp only [push_cast, seval]; rfl)); (intro _; rfl); intro e hm) | ((with_reducible apply O_strr hm); (iterate 2 (simp only [push_cast, seval]; rfl)); intro hm) | ((with_reducible apply O_and hm); (simp only [push_cast, seval]; rfl); rfl; intro v hm; rotate_left; intro v g hm) | ((with_reducible apply W_condT); (focus (simp only [push_cast, seval]; done))) | ((with_reducible apply W_condF); (focus (simp only [push_cast, seval]; done))) | ((with_reducible apply O_cF hm); (simp only [push_cast, seval]; rfl); (first | apply spec_kit_IsTagPart _ | apply spec_kit_InBytes _ _ _ | apply spec_strings_ContainsAny _ _ | apply spec_strings_IndexByte _ _ | apply spec_kit_IsText _ | apply spec_interchangeref2_IsTag _ | apply spec_interchangeref2_checkElement _); (any_goals ((repeat' (first | rfl | (with_reducible first | apply fT_Tapi_Element | apply fT_Tapi_Segment | apply f_optN | apply f_optS | apply f_some | apply f_tup | apply f_agg | apply f_ptr | apply f_fn | apply dv_slice | apply sv_d | apply f_cons | apply fold_nil | apply fold_cons | apply fold_app | apply f_rowI | apply f_rowY | apply f_rowS | apply f_rowB | apply f_rowL) | (with_reducible apply f_byte; decide))); done)); intro x hm) | ((with_reducible apply S_condB hm); (simp only [push_cast, seval]; rfl); intro hm; rotate_left; intro hm) | ((with_reducible apply K_endS hm); (focus (simp only [resOf, resL, RV.get, push_cast, seval]; rfl)); (focus ((repeat' (first | rfl | (with_reducible first | apply fT_Tapi_Element | apply fT_Tapi_Segment | apply f_optN | apply f_optS | apply f_some | apply f_tup | apply f_agg | apply f_ptr | apply f_fn | apply dv_slice | apply sv_d | apply f_cons | apply fold_nil | apply fold_cons | apply fold_app | apply f_rowI | apply f_rowY | apply f_rowS | apply f_rowB | apply f_rowL) | (with_reducible apply f_byte; decide))); done))) | ((with_reducible apply K_bool hm); (simp only [push_cast, seval]; rfl)) | ((with_reducible apply K_leave hm); intro r hm) | ((with_reducible apply K_leaveR hm); intro r hm) | ((apply S_loopY (b := 0) (X := sc_interchangeref2_CheckOne_B1) (x := sc_interchangeref2_CheckOne_L1) rfl (fun (c : SV) (s : Int) => st [(1, c), (3, .d (.int .i64 s))] []) (c := _) (s0 := _) hm); (focus (first | (dsimp only; done) | (dsimp only; rfl) | rfl)); (with_reducible refine Then.mk ?_ ?_)) | ((apply K_next (s' := _) hm); (focus (first | (dsimp only; done) | (dsimp only; rfl) | rfl))) | ((apply K_brk (s' := _) hm); (focus (first | (dsimp only; done) | (dsimp only; rfl) | rfl))) | (((with_reducible apply K_brkN hm); (focus decide); intro r hm)) | (((with_reducible apply K_brkR hm); intro r hm)) | (((with_reducible apply LoopB.of); (focus (first | (dsimp only; done) | (dsimp only; rfl) | rfl)); (focus ((intro _; repeat' (first | with_reducible exact impC_end | with_reducible exact impC_endF | with_reducible refine impC_seq ?_ | with_reducible refine impC_block ?_ | ((with_reducible refine impC_rnd ?_); intro _) | ((with_reducible refine impC_brk ?_); intro _))))); (intro s o hm; first | unfold sc_interchangeref2_CheckOne_L1); rotate_left; intro s hm)) | (((apply imp_stT; (repeat' (first | with_reducible exact keepT_nil | with_reducible exact keepC_nil | with_reducible apply keepT_cons | with_reducible apply keepC_cons | ((with_reducible apply svle_eq); (focus (first | (simp only [push_cast, seval]; rfl) | rfl)); (focus ((repeat' (first | rfl | (with_reducible first | apply fT_Tapi_Element | apply fT_Tapi_Segment | apply f_optN | apply f_optS | apply f_some | apply f_tup | apply f_agg | apply f_ptr | apply f_fn | apply dv_slice | apply sv_d | apply f_cons | apply fold_nil | apply fold_cons | apply fold_app | apply f_rowI | apply f_rowY | apply f_rowS | apply f_rowB | apply f_rowL) | (with_reducible apply f_byte; decide))); done))) | ((with_reducible apply svle_td); (focus (first | (simp only [push_cast, seval]; rfl) | rfl)); (focus (first | (simp only [push_cast, seval]; rfl) | rfl)); (focus ((repeat' (first | rfl | (with_reducible first | apply fT_Tapi_Element | apply fT_Tapi_Segment | apply f_optN | apply f_optS | apply f_some | apply f_tup | apply f_agg | apply f_ptr | apply f_fn | apply dv_slice | apply sv_d | apply f_cons | apply fold_nil | apply fold_cons | apply fold_app | apply f_rowI | apply f_rowY | apply f_rowS | apply f_rowB | apply f_rowL) | (with_reducible apply f_byte; decide))); done))) | ((with_reducible apply chle_eq); (focus (first | (simp only [push_cast, seval]; rfl) | rfl)); (first | with_reducible exact chle_rfl rfl | with_reducible exact chle_map0 | with_reducible apply chle_vec | with_reducible apply chle_box)) | (with_reducible first | apply cT_Tapi_Element | apply cT_Tapi_Segment | apply r_shS | apply r_shI | apply r_rflO | apply r_oneO | apply r_appO | apply r_nilO | apply c_ownN | apply c_ownL | apply vc_rfl | apply vc_nil | apply vc_cons | apply r_rfl | apply r_rows | apply r_nil | apply r_app | apply r_cons | apply c_rowI | apply c_rowY | apply c_rowS | apply c_rowB | apply c_rowL))); done)))))
noncomputable def m_kit_IsTag (x0 : List UInt8) : Option (Bool) := (sims_G1_2_0.2.1 x0).1
theorem spec_kit_IsTag (x0 : List UInt8) : ∀ r, m_kit_IsTag x0 = some r → PureSpec Tryd.prog 176 [.str x0] (.bool r) := (sims_G1_2_0.2.1 x0).2
end Go.Proofs.YtpojlkajcobgcaaDoor

/-
  slices.Clone at some types.
-/
namespace Go.Proofs.YtpojlkajcobgcaaDoor
open Go.RowKit Go.Shelf Go.Lib
end Go.Proofs.YtpojlkajcobgcaaDoor

/-
  The bodies of some functions in the engine's form, printed by a program of mine (wip/tool/sc.py) out of the translation; each is held against the translation by the kernel.
-/
namespace Go.Proofs.YtpojlkajcobgcaaDoor

end Go.Proofs.YtpojlkajcobgcaaDoor

/-
  wire.Clone: a copy of a segment, all of which is owned.
-/
namespace Go.Proofs.YtpojlkajcobgcaaDoor
set_option linter.unusedSimpArgs false
set_option linter.unusedVariables false
open Go.RowKit

def cloneOk (x : Tapi_Segment) : Prop := x.fElements.length ≤ 137438953472 ∧ ∀ e ∈ x.fElements, e.fRepeats.length ≤ 137438953472 ∧ ∀ p ∈ e.fRepeats, p.length ≤ 137438953472
instance (x : Tapi_Segment) : Decidable (cloneOk x) := by unfold cloneOk; infer_instance
set_option maxRecDepth 100000
set_option maxHeartbeats 4000000

end Go.Proofs.YtpojlkajcobgcaaDoor

/-
  wire.Clone, as a function that only computes.
-/
namespace Go.Proofs.YtpojlkajcobgcaaDoor
set_option linter.unusedSimpArgs false
set_option linter.unusedVariables false
open Go.RowKit

end Go.Proofs.YtpojlkajcobgcaaDoor

/-
  Bodies of functions and what they compute, printed by programs of mine (wip/tool/gen.py, sc.py) out of the translation; the kernel holds each against the translation.
-/
namespace Go.Proofs.YtpojlkajcobgcaaDoor
open Go.RowKit
set_option linter.unusedSimpArgs false
set_option linter.unusedVariables false
structure Tapi_Spot where
  fElement : Int
  fRepeat : Int
  fPart : Int
  deriving DecidableEq
def rTapi_Spot (x : Tapi_Spot) : List DV := [.int .i64 x.fElement, .int .i64 x.fRepeat, .int .i64 x.fPart]
attribute [push_cast] rTapi_Spot
theorem fT_Tapi_Spot {d0 d1 d2 : DV} {v0 : Int} {v1 : Int} {v2 : Int} (h0 : d0 = .int .i64 v0) (h1 : d1 = .int .i64 v1) (h2 : d2 = .int .i64 v2) : [d0, d1, d2] = rTapi_Spot ⟨v0, v1, v2⟩ := by unfold rTapi_Spot; simp only [h0, h1, h2, List.cons_append, List.nil_append, List.append_assoc, List.append_nil]
theorem cT_Tapi_Spot {d0 d1 d2 : SV} {v0 : Int} {v1 : Int} {v2 : Int} (h0 : svle d0 (.d (.int .i64 v0))) (h1 : svle d1 (.d (.int .i64 v1))) (h2 : svle d2 (.d (.int .i64 v2))) : cellsle [d0, d1, d2] (dR (rTapi_Spot ⟨v0, v1, v2⟩)) := by have h := (cellsle.append (cellsle.consS h0 cellsle.nil) (cellsle.append (cellsle.consS h1 cellsle.nil) (cellsle.consS h2 cellsle.nil))); simpa only [rTapi_Spot, dR, List.map_append, List.map_cons, List.map_nil, List.cons_append, List.nil_append, List.append_assoc, List.append_nil] using h
theorem eT_Tapi_Spot {d0 d1 d2 : SV} {v0 : Int} {v1 : Int} {v2 : Int} (h0 : d0 = .d (.int .i64 v0)) (h1 : d1 = .d (.int .i64 v1)) (h2 : d2 = .d (.int .i64 v2)) : [d0, d1, d2] = dR (rTapi_Spot ⟨v0, v1, v2⟩) := by simp only [rTapi_Spot, dR, List.map_append, List.map_cons, List.map_nil, List.cons_append, List.nil_append, List.append_assoc, List.append_nil, h0, h1, h2]

structure Tapi_Flaw where
  fKind : Int
  fSegment : Int
  fAt : Tapi_Spot
  fName : List UInt8
  deriving DecidableEq
def rTapi_Flaw (x : Tapi_Flaw) : List DV := [.int .i64 x.fKind, .int .i64 x.fSegment] ++ rTapi_Spot x.fAt ++ [.str x.fName]
attribute [push_cast] rTapi_Flaw
theorem fT_Tapi_Flaw {d0 d1 d2 d3 d4 d5 : DV} {v0 : Int} {v1 : Int} {v2 : Tapi_Spot} {v3 : List UInt8} (h0 : d0 = .int .i64 v0) (h1 : d1 = .int .i64 v1) (h2 : [d2, d3, d4] = rTapi_Spot v2) (h3 : d5 = .str v3) : [d0, d1, d2, d3, d4, d5] = rTapi_Flaw ⟨v0, v1, v2, v3⟩ := by unfold rTapi_Flaw; simp only [h0, h1, ← h2, h3, List.cons_append, List.nil_append, List.append_assoc, List.append_nil]
theorem cT_Tapi_Flaw {d0 d1 d2 d3 d4 d5 : SV} {v0 : Int} {v1 : Int} {v2 : Tapi_Spot} {v3 : List UInt8} (h0 : svle d0 (.d (.int .i64 v0))) (h1 : svle d1 (.d (.int .i64 v1))) (h2 : cellsle [d2, d3, d4] (dR (rTapi_Spot v2))) (h3 : svle d5 (.d (.str v3))) : cellsle [d0, d1, d2, d3, d4, d5] (dR (rTapi_Flaw ⟨v0, v1, v2, v3⟩)) := by have h := (cellsle.append (cellsle.consS h0 cellsle.nil) (cellsle.append (cellsle.consS h1 cellsle.nil) (cellsle.append h2 (cellsle.consS h3 cellsle.nil)))); simpa only [rTapi_Flaw, dR, List.map_append, List.map_cons, List.map_nil, List.cons_append, List.nil_append, List.append_assoc, List.append_nil] using h

structure Tapi_MessageReply where
  fRef : List UInt8
  fVerdict : Int
  fUnknown : Bool
  fFlaws : List Tapi_Flaw
  fFailing : List (List UInt8)
  deriving DecidableEq
def rTapi_MessageReply (x : Tapi_MessageReply) : List DV := [.str x.fRef, .int .i64 x.fVerdict, .bool x.fUnknown, .slice (List.map rTapi_Flaw x.fFlaws), .slice (List.map rowS x.fFailing)]
attribute [push_cast] rTapi_MessageReply
theorem fT_Tapi_MessageReply {d0 d1 d2 d3 d4 : DV} {v0 : List UInt8} {v1 : Int} {v2 : Bool} {v3 : List Tapi_Flaw} {v4 : List (List UInt8)} (h0 : d0 = .str v0) (h1 : d1 = .int .i64 v1) (h2 : d2 = .bool v2) (h3 : d3 = .slice (List.map rTapi_Flaw v3)) (h4 : d4 = .slice (List.map rowS v4)) : [d0, d1, d2, d3, d4] = rTapi_MessageReply ⟨v0, v1, v2, v3, v4⟩ := by unfold rTapi_MessageReply; simp only [h0, h1, h2, h3, h4, List.cons_append, List.nil_append, List.append_assoc, List.append_nil]
theorem cT_Tapi_MessageReply {d0 d1 d2 d3 d4 : SV} {v0 : List UInt8} {v1 : Int} {v2 : Bool} {v3 : List Tapi_Flaw} {v4 : List (List UInt8)} (h0 : svle d0 (.d (.str v0))) (h1 : svle d1 (.d (.int .i64 v1))) (h2 : svle d2 (.d (.bool v2))) (h3 : svle d3 (.d (.slice (List.map rTapi_Flaw v3)))) (h4 : svle d4 (.d (.slice (List.map rowS v4)))) : cellsle [d0, d1, d2, d3, d4] (dR (rTapi_MessageReply ⟨v0, v1, v2, v3, v4⟩)) := by have h := (cellsle.append (cellsle.consS h0 cellsle.nil) (cellsle.append (cellsle.consS h1 cellsle.nil) (cellsle.append (cellsle.consS h2 cellsle.nil) (cellsle.append (cellsle.consS h3 cellsle.nil) (cellsle.consS h4 cellsle.nil))))); simpa only [rTapi_MessageReply, dR, List.map_append, List.map_cons, List.map_nil, List.cons_append, List.nil_append, List.append_assoc, List.append_nil] using h
theorem eT_Tapi_MessageReply {d0 d1 d2 d3 d4 : SV} {v0 : List UInt8} {v1 : Int} {v2 : Bool} {v3 : List Tapi_Flaw} {v4 : List (List UInt8)} (h0 : d0 = .d (.str v0)) (h1 : d1 = .d (.int .i64 v1)) (h2 : d2 = .d (.bool v2)) (h3 : d3 = .d (.slice (List.map rTapi_Flaw v3))) (h4 : d4 = .d (.slice (List.map rowS v4))) : [d0, d1, d2, d3, d4] = dR (rTapi_MessageReply ⟨v0, v1, v2, v3, v4⟩) := by simp only [rTapi_MessageReply, dR, List.map_append, List.map_cons, List.map_nil, List.cons_append, List.nil_append, List.append_assoc, List.append_nil, h0, h1, h2, h3, h4]

structure Tapi_GroupReply where
  fRef : List UInt8
  fVerdict : Int
  fMessages : List Tapi_MessageReply
  deriving DecidableEq
def rTapi_GroupReply (x : Tapi_GroupReply) : List DV := [.str x.fRef, .int .i64 x.fVerdict, .slice (List.map rTapi_MessageReply x.fMessages)]
attribute [push_cast] rTapi_GroupReply
theorem fT_Tapi_GroupReply {d0 d1 d2 : DV} {v0 : List UInt8} {v1 : Int} {v2 : List Tapi_MessageReply} (h0 : d0 = .str v0) (h1 : d1 = .int .i64 v1) (h2 : d2 = .slice (List.map rTapi_MessageReply v2)) : [d0, d1, d2] = rTapi_GroupReply ⟨v0, v1, v2⟩ := by unfold rTapi_GroupReply; simp only [h0, h1, h2, List.cons_append, List.nil_append, List.append_assoc, List.append_nil]
theorem cT_Tapi_GroupReply {d0 d1 d2 : SV} {v0 : List UInt8} {v1 : Int} {v2 : List Tapi_MessageReply} (h0 : svle d0 (.d (.str v0))) (h1 : svle d1 (.d (.int .i64 v1))) (h2 : svle d2 (.d (.slice (List.map rTapi_MessageReply v2)))) : cellsle [d0, d1, d2] (dR (rTapi_GroupReply ⟨v0, v1, v2⟩)) := by have h := (cellsle.append (cellsle.consS h0 cellsle.nil) (cellsle.append (cellsle.consS h1 cellsle.nil) (cellsle.consS h2 cellsle.nil))); simpa only [rTapi_GroupReply, dR, List.map_append, List.map_cons, List.map_nil, List.cons_append, List.nil_append, List.append_assoc, List.append_nil] using h
theorem eT_Tapi_GroupReply {d0 d1 d2 : SV} {v0 : List UInt8} {v1 : Int} {v2 : List Tapi_MessageReply} (h0 : d0 = .d (.str v0)) (h1 : d1 = .d (.int .i64 v1)) (h2 : d2 = .d (.slice (List.map rTapi_MessageReply v2))) : [d0, d1, d2] = dR (rTapi_GroupReply ⟨v0, v1, v2⟩) := by simp only [rTapi_GroupReply, dR, List.map_append, List.map_cons, List.map_nil, List.cons_append, List.nil_append, List.append_assoc, List.append_nil, h0, h1, h2]

structure Tapi_Reply where
  fRef : List UInt8
  fVerdict : Int
  fGroups : List Tapi_GroupReply
  deriving DecidableEq
def rTapi_Reply (x : Tapi_Reply) : List DV := [.str x.fRef, .int .i64 x.fVerdict, .slice (List.map rTapi_GroupReply x.fGroups)]
attribute [push_cast] rTapi_Reply
theorem fT_Tapi_Reply {d0 d1 d2 : DV} {v0 : List UInt8} {v1 : Int} {v2 : List Tapi_GroupReply} (h0 : d0 = .str v0) (h1 : d1 = .int .i64 v1) (h2 : d2 = .slice (List.map rTapi_GroupReply v2)) : [d0, d1, d2] = rTapi_Reply ⟨v0, v1, v2⟩ := by unfold rTapi_Reply; simp only [h0, h1, h2, List.cons_append, List.nil_append, List.append_assoc, List.append_nil]
theorem cT_Tapi_Reply {d0 d1 d2 : SV} {v0 : List UInt8} {v1 : Int} {v2 : List Tapi_GroupReply} (h0 : svle d0 (.d (.str v0))) (h1 : svle d1 (.d (.int .i64 v1))) (h2 : svle d2 (.d (.slice (List.map rTapi_GroupReply v2)))) : cellsle [d0, d1, d2] (dR (rTapi_Reply ⟨v0, v1, v2⟩)) := by have h := (cellsle.append (cellsle.consS h0 cellsle.nil) (cellsle.append (cellsle.consS h1 cellsle.nil) (cellsle.consS h2 cellsle.nil))); simpa only [rTapi_Reply, dR, List.map_append, List.map_cons, List.map_nil, List.cons_append, List.nil_append, List.append_assoc, List.append_nil] using h
theorem eT_Tapi_Reply {d0 d1 d2 : SV} {v0 : List UInt8} {v1 : Int} {v2 : List Tapi_GroupReply} (h0 : d0 = .d (.str v0)) (h1 : d1 = .d (.int .i64 v1)) (h2 : d2 = .d (.slice (List.map rTapi_GroupReply v2))) : [d0, d1, d2] = dR (rTapi_Reply ⟨v0, v1, v2⟩) := by simp only [rTapi_Reply, dR, List.map_append, List.map_cons, List.map_nil, List.cons_append, List.nil_append, List.append_assoc, List.append_nil, h0, h1, h2]

/-- interchange/kit.Outside -/
def sc_kit_Outside : SC :=
  (.seq (.reg [.r 6 (.mv (.c (.d (.bool false))))])
  (.seq (.reg (.r 7 (.mv (.t 0)) :: .r 8 (.mv (.t 1)) :: .r 9 (.bin .lss (.t 7) (.t 8)) :: .r 10 (.mv (.t 9)) :: gapp [11, 12, 13] 10 false (.r 11 (.mv (.t 0)) :: .r 12 (.mv (.t 2)) :: .r 13 (.bin .gtr (.t 11) (.t 12)) :: []) (.r 14 (.pick (.t 10) (.c (.d (.bool true))) (.t 13)) :: .r 6 (.mv (.t 14)) :: [])))
  .ret))
theorem fit_kit_Outside : fits Tryd.prog 55 Tryd.f55 sc_kit_Outside [.t 6] 3 = true := by kernel_rfl

/-- interchange/reply.groupFault$1 -/
def sc_reply_groupFault_1 : SC :=
  (.seq (.reg [.r 2 (.boxI (.t 0)),
     .r 3 (.mv (.c (.d (.bool false))))])
  (.seq (.reg [.r 4 (.fld 0 (.t 2)),
     .o 5 (.ld1 (.t 4)),
     .r 6 (.fld 0 (.t 1)),
     .o 7 (.ld1 (.t 6)),
     .r 8 (.bin .eql (.t 5) (.t 7)),
     .r 3 (.mv (.t 8))])
  .ret))
theorem fit_reply_groupFault_1 : fits Tryd.prog 89 Tryd.f89 sc_reply_groupFault_1 [.t 3] 2 = true := by kernel_rfl

def sc_slices_IndexFunc_interchange_api_GroupReply_interchange_api_GroupReply_L1 : SC :=
  (.seq (.reg [.r 9 (.bin .lss (.t 8) (.t 7))])
  (.seq (.cond (.t 9)
    .skip
    (.exit 0))
  (.seq (.block 1 (.seq (.reg [.r 10 (.mv (.t 8)),
       .r 5 (.mv (.t 10))])
    (.seq (.reg [.r 11 (.mv (.t 1)),
       .r 12 (.mv (.t 0)),
       .r 13 (.mv (.t 5)),
       .r 14 (.idx 3 (.t 12) (.t 13)),
       .o 15 (.ldA 3 (.t 14)),
       .c 16 (.t 11) [.t 15]])
    (.cond (.t 16)
      (.seq (.reg [.r 17 (.mv (.t 5)),
         .r 4 (.mv (.t 17))])
      .ret)
      .skip))))
  (.reg [.r 18 (.bin .add (.t 8) (.c (.d (.int .i64 1)))),
     .r 8 (.mv (.t 18))]))))
def sc_slices_IndexFunc_interchange_api_GroupReply_interchange_api_GroupReply_B1 : SC := .block 0 (.loop sc_slices_IndexFunc_interchange_api_GroupReply_interchange_api_GroupReply_L1)
/-- slices.IndexFunc[[]interchange/api.GroupReply,interchange/api.GroupReply] -/
def sc_slices_IndexFunc_interchange_api_GroupReply_interchange_api_GroupReply : SC :=
  (.seq (.reg [.r 4 (.mv (.c (.d (.int .i64 0))))])
  (.seq (.seq (.reg [.r 6 (.mv (.t 0)),
     .r 7 (.len (.t 6)),
     .r 8 (.mv (.c (.d (.int .i64 0))))])
  sc_slices_IndexFunc_interchange_api_GroupReply_interchange_api_GroupReply_B1)
  (.seq (.reg [.r 4 (.mv (.c (.d (.int .i64 (-1)))))])
  .ret)))
theorem fit_slices_IndexFunc_interchange_api_GroupReply_interchange_api_GroupReply : fits Tryd.prog 134 Tryd.f134 sc_slices_IndexFunc_interchange_api_GroupReply_interchange_api_GroupReply [.t 4] 2 = true := by kernel_rfl

/-- interchange/reply.messageFault$1 -/
def sc_reply_messageFault_1 : SC :=
  (.seq (.reg [.r 2 (.boxI (.t 0)),
     .r 3 (.mv (.c (.d (.bool false))))])
  (.seq (.reg [.r 4 (.fld 0 (.t 2)),
     .o 5 (.ld1 (.t 4)),
     .r 6 (.fld 0 (.t 1)),
     .o 7 (.ld1 (.t 6)),
     .r 8 (.bin .eql (.t 5) (.t 7)),
     .r 3 (.mv (.t 8))])
  .ret))
theorem fit_reply_messageFault_1 : fits Tryd.prog 136 Tryd.f136 sc_reply_messageFault_1 [.t 3] 2 = true := by kernel_rfl

def sc_slices_IndexFunc_interchange_api_MessageReply_interchange_api_MessageReply_L1 : SC :=
  (.seq (.reg [.r 9 (.bin .lss (.t 8) (.t 7))])
  (.seq (.cond (.t 9)
    .skip
    (.exit 0))
  (.seq (.block 1 (.seq (.reg [.r 10 (.mv (.t 8)),
       .r 5 (.mv (.t 10))])
    (.seq (.reg [.r 11 (.mv (.t 1)),
       .r 12 (.mv (.t 0)),
       .r 13 (.mv (.t 5)),
       .r 14 (.idx 5 (.t 12) (.t 13)),
       .o 15 (.ldA 5 (.t 14)),
       .c 16 (.t 11) [.t 15]])
    (.cond (.t 16)
      (.seq (.reg [.r 17 (.mv (.t 5)),
         .r 4 (.mv (.t 17))])
      .ret)
      .skip))))
  (.reg [.r 18 (.bin .add (.t 8) (.c (.d (.int .i64 1)))),
     .r 8 (.mv (.t 18))]))))
def sc_slices_IndexFunc_interchange_api_MessageReply_interchange_api_MessageReply_B1 : SC := .block 0 (.loop sc_slices_IndexFunc_interchange_api_MessageReply_interchange_api_MessageReply_L1)
/-- slices.IndexFunc[[]interchange/api.MessageReply,interchange/api.MessageReply] -/
def sc_slices_IndexFunc_interchange_api_MessageReply_interchange_api_MessageReply : SC :=
  (.seq (.reg [.r 4 (.mv (.c (.d (.int .i64 0))))])
  (.seq (.seq (.reg [.r 6 (.mv (.t 0)),
     .r 7 (.len (.t 6)),
     .r 8 (.mv (.c (.d (.int .i64 0))))])
  sc_slices_IndexFunc_interchange_api_MessageReply_interchange_api_MessageReply_B1)
  (.seq (.reg [.r 4 (.mv (.c (.d (.int .i64 (-1)))))])
  .ret)))
theorem fit_slices_IndexFunc_interchange_api_MessageReply_interchange_api_MessageReply : fits Tryd.prog 192 Tryd.f192 sc_slices_IndexFunc_interchange_api_MessageReply_interchange_api_MessageReply [.t 4] 2 = true := by kernel_rfl

/-- interchange/reply.together$1$1 -/
def sc_reply_together_1_1 : SC :=
  (.seq (.reg [.r 3 (.mv (.c (.d (.bool false))))])
  (.seq (.reg [.r 4 (.mv (.t 0)),
     .o 5 (.ld1 (.t 1)),
     .r 6 (.bin .neq (.t 4) (.t 5)),
     .r 3 (.mv (.t 6))])
  .ret))
theorem fit_reply_together_1_1 : fits Tryd.prog 139 Tryd.f139 sc_reply_together_1_1 [.t 3] 2 = true := by kernel_rfl

def sc_slices_IndexFunc_int_int_L1 : SC :=
  (.seq (.reg [.r 9 (.bin .lss (.t 8) (.t 7))])
  (.seq (.cond (.t 9)
    .skip
    (.exit 0))
  (.seq (.block 1 (.seq (.reg [.r 10 (.mv (.t 8)),
       .r 5 (.mv (.t 10))])
    (.seq (.reg [.r 11 (.mv (.t 1)),
       .r 12 (.mv (.t 0)),
       .r 13 (.mv (.t 5)),
       .r 14 (.idx 1 (.t 12) (.t 13)),
       .o 15 (.ld1 (.t 14)),
       .c 16 (.t 11) [.t 15]])
    (.cond (.t 16)
      (.seq (.reg [.r 17 (.mv (.t 5)),
         .r 4 (.mv (.t 17))])
      .ret)
      .skip))))
  (.reg [.r 18 (.bin .add (.t 8) (.c (.d (.int .i64 1)))),
     .r 8 (.mv (.t 18))]))))
def sc_slices_IndexFunc_int_int_B1 : SC := .block 0 (.loop sc_slices_IndexFunc_int_int_L1)
/-- slices.IndexFunc[[]int,int] -/
def sc_slices_IndexFunc_int_int : SC :=
  (.seq (.reg [.r 4 (.mv (.c (.d (.int .i64 0))))])
  (.seq (.seq (.reg [.r 6 (.mv (.t 0)),
     .r 7 (.len (.t 6)),
     .r 8 (.mv (.c (.d (.int .i64 0))))])
  sc_slices_IndexFunc_int_int_B1)
  (.seq (.reg [.r 4 (.mv (.c (.d (.int .i64 (-1)))))])
  .ret)))
theorem fit_slices_IndexFunc_int_int : fits Tryd.prog 194 Tryd.f194 sc_slices_IndexFunc_int_int [.t 4] 2 = true := by kernel_rfl

def sc_interchangeref2_IsReference_L1 : SC :=
  (.seq (.seq (.reg [.r 4 (.mv (.t 3)),
     .r 5 (.mv (.t 0)),
     .r 6 (.lenT (.t 5)),
     .r 7 (.bin .lss (.t 4) (.t 6))])
  (.cond (.t 7)
    .skip
    (.exit 0)))
  (.seq (.block 1 (.seq (.reg (.r 10 (.mv (.t 0)) :: .r 11 (.mv (.t 3)) :: .r 12 (.sidx (.t 10) (.t 11)) :: .r 13 (.bin .geq (.t 12) (.c (.d (.int .u8 65)))) :: .r 14 (.mv (.t 13)) :: gapp [15, 16, 17, 18] 14 true (.r 15 (.mv (.t 0)) :: .r 16 (.mv (.t 3)) :: .r 17 (.sidx (.t 15) (.t 16)) :: .r 18 (.bin .leq (.t 17) (.c (.d (.int .u8 90)))) :: []) (.r 19 (.pick (.t 14) (.t 18) (.c (.d (.bool false)))) :: .r 20 (.mv (.t 19)) :: gapp [21, 22, 23, 24, 25, 26, 27, 28, 29, 30] 20 false (.r 21 (.mv (.t 0)) :: .r 22 (.mv (.t 3)) :: .r 23 (.sidx (.t 21) (.t 22)) :: .r 24 (.bin .geq (.t 23) (.c (.d (.int .u8 48)))) :: .r 25 (.mv (.t 24)) :: gapp [26, 27, 28, 29] 25 true (.r 26 (.mv (.t 0)) :: .r 27 (.mv (.t 3)) :: .r 28 (.sidx (.t 26) (.t 27)) :: .r 29 (.bin .leq (.t 28) (.c (.d (.int .u8 57)))) :: []) (.r 30 (.pick (.t 25) (.t 29) (.c (.d (.bool false)))) :: [])) (.r 31 (.pick (.t 20) (.c (.d (.bool true))) (.t 30)) :: .r 32 (.mv (.t 31)) :: gapp [33, 34, 35, 36] 32 false (.r 33 (.mv (.t 0)) :: .r 34 (.mv (.t 3)) :: .r 35 (.sidx (.t 33) (.t 34)) :: .r 36 (.bin .eql (.t 35) (.c (.d (.int .u8 45)))) :: []) (.r 37 (.pick (.t 32) (.c (.d (.bool true))) (.t 36)) :: .r 38 (.not (.t 37)) :: [])))))
    (.cond (.t 38)
      (.seq (.reg [.r 2 (.mv (.c (.d (.bool false))))])
      .ret)
      .skip)))
  (.reg [.r 8 (.mv (.t 3)),
     .r 9 (.bin .add (.t 8) (.c (.d (.int .i64 1)))),
     .r 3 (.mv (.t 9))])))
def sc_interchangeref2_IsReference_B1 : SC := .block 0 (.loop sc_interchangeref2_IsReference_L1)
/-- interchange/interchangeref2.IsReference -/
def sc_interchangeref2_IsReference : SC :=
  (.seq (.reg [.r 2 (.mv (.c (.d (.bool false))))])
  (.seq (.seq (.reg [.r 3 (.mv (.c (.d (.int .i64 0))))])
  sc_interchangeref2_IsReference_B1)
  (.seq (.reg (.r 39 (.mv (.t 0)) :: .r 40 (.bin .neq (.t 39) (.c (.d (.str [])))) :: .r 41 (.mv (.t 40)) :: gapp [42, 43, 44] 41 true (.r 42 (.mv (.t 0)) :: .r 43 (.lenT (.t 42)) :: .r 44 (.bin .leq (.t 43) (.c (.d (.int .i64 14)))) :: []) (.r 45 (.pick (.t 41) (.t 44) (.c (.d (.bool false)))) :: .r 2 (.mv (.t 45)) :: [])))
  .ret)))
theorem fit_interchangeref2_IsReference : fits Tryd.prog 48 Tryd.f48 sc_interchangeref2_IsReference [.t 2] 1 = true := by kernel_rfl

/-- interchange/interchangeref7.within -/
def sc_interchangeref7_within : SC :=
  (.seq (.reg [.r 6 (.mv (.c (.d (.bool false))))])
  (.seq (.reg (.r 7 (.mv (.t 0)) :: .r 8 (.mv (.t 1)) :: .r 9 (.bin .geq (.t 7) (.t 8)) :: .r 10 (.mv (.t 9)) :: gapp [11, 12, 13] 10 true (.r 11 (.mv (.t 0)) :: .r 12 (.mv (.t 2)) :: .r 13 (.bin .leq (.t 11) (.t 12)) :: []) (.r 14 (.pick (.t 10) (.t 13) (.c (.d (.bool false)))) :: .r 6 (.mv (.t 14)) :: [])))
  .ret))
theorem fit_interchangeref7_within : fits Tryd.prog 59 Tryd.f59 sc_interchangeref7_within [.t 6] 3 = true := by kernel_rfl

def sc_interchangeref2_IsName_L1 : SC :=
  (.seq (.seq (.reg [.r 6 (.mv (.t 3)),
     .r 7 (.mv (.t 0)),
     .r 8 (.lenT (.t 7)),
     .r 9 (.bin .lss (.t 6) (.t 8))])
  (.cond (.t 9)
    .skip
    (.exit 0)))
  (.seq (.block 1 (.seq (.reg [.r 12 (.mv (.t 0)),
       .r 13 (.mv (.t 3)),
       .r 14 (.sidx (.t 12) (.t 13)),
       .r 4 (.mv (.t 14))])
    (.seq (.reg (.r 15 (.mv (.t 4)) :: .r 16 (.bin .geq (.t 15) (.c (.d (.int .u8 97)))) :: .r 17 (.mv (.t 16)) :: gapp [18, 19] 17 true (.r 18 (.mv (.t 4)) :: .r 19 (.bin .leq (.t 18) (.c (.d (.int .u8 122)))) :: []) (.r 20 (.pick (.t 17) (.t 19) (.c (.d (.bool false)))) :: .r 5 (.mv (.t 20)) :: [])))
    (.seq (.reg (.r 21 (.mv (.t 5)) :: .r 22 (.not (.t 21)) :: .r 23 (.mv (.t 22)) :: gapp [24, 25, 26, 27, 28, 29, 30, 31, 32, 33, 34, 35, 36, 37, 38] 23 true (.r 24 (.mv (.t 3)) :: .r 25 (.bin .eql (.t 24) (.c (.d (.int .i64 0)))) :: .r 26 (.mv (.t 25)) :: gapp [27, 28, 29, 30, 31, 32, 33, 34, 35, 36, 37] 26 false (.r 27 (.mv (.t 4)) :: .r 28 (.bin .neq (.t 27) (.c (.d (.int .u8 45)))) :: .r 29 (.mv (.t 28)) :: gapp [30, 31, 32, 33, 34, 35, 36] 29 true (.r 30 (.mv (.t 4)) :: .r 31 (.bin .geq (.t 30) (.c (.d (.int .u8 48)))) :: .r 32 (.mv (.t 31)) :: gapp [33, 34] 32 true (.r 33 (.mv (.t 4)) :: .r 34 (.bin .leq (.t 33) (.c (.d (.int .u8 57)))) :: []) (.r 35 (.pick (.t 32) (.t 34) (.c (.d (.bool false)))) :: .r 36 (.not (.t 35)) :: [])) (.r 37 (.pick (.t 29) (.t 36) (.c (.d (.bool false)))) :: [])) (.r 38 (.pick (.t 26) (.c (.d (.bool true))) (.t 37)) :: [])) (.r 39 (.pick (.t 23) (.t 38) (.c (.d (.bool false)))) :: [])))
    (.cond (.t 39)
      (.seq (.reg [.r 2 (.mv (.c (.d (.bool false))))])
      .ret)
      .skip)))))
  (.reg [.r 10 (.mv (.t 3)),
     .r 11 (.bin .add (.t 10) (.c (.d (.int .i64 1)))),
     .r 3 (.mv (.t 11))])))
def sc_interchangeref2_IsName_B1 : SC := .block 0 (.loop sc_interchangeref2_IsName_L1)
/-- interchange/interchangeref2.IsName -/
def sc_interchangeref2_IsName : SC :=
  (.seq (.reg [.r 2 (.mv (.c (.d (.bool false))))])
  (.seq (.seq (.reg [.r 3 (.mv (.c (.d (.int .i64 0))))])
  sc_interchangeref2_IsName_B1)
  (.seq (.reg (.r 40 (.mv (.t 0)) :: .r 41 (.bin .neq (.t 40) (.c (.d (.str [])))) :: .r 42 (.mv (.t 41)) :: gapp [43, 44, 45] 42 true (.r 43 (.mv (.t 0)) :: .r 44 (.lenT (.t 43)) :: .r 45 (.bin .leq (.t 44) (.c (.d (.int .i64 40)))) :: []) (.r 46 (.pick (.t 42) (.t 45) (.c (.d (.bool false)))) :: .r 2 (.mv (.t 46)) :: [])))
  .ret)))
theorem fit_interchangeref2_IsName : fits Tryd.prog 142 Tryd.f142 sc_interchangeref2_IsName [.t 2] 1 = true := by kernel_rfl

def sc_interchangeref7_together_L1 : SC :=
  (.seq (.seq (.reg [.r 6 (.mv (.t 5)),
     .r 7 (.mv (.t 0)),
     .r 8 (.len (.t 7)),
     .r 9 (.bin .lss (.t 6) (.t 8))])
  (.cond (.t 9)
    .skip
    (.exit 0)))
  (.seq (.block 1 (.seq (.reg (.r 12 (.mv (.t 3)) :: .r 13 (.mv (.t 12)) :: gapp [14, 15, 16, 17, 18] 13 true (.r 14 (.mv (.t 0)) :: .r 15 (.mv (.t 5)) :: .r 16 (.idx 1 (.t 14) (.t 15)) :: .r 17 (.ld1 (.t 16)) :: .r 18 (.bin .eql (.t 17) (.c (.d (.int .i64 1)))) :: []) (.r 19 (.pick (.t 13) (.t 18) (.c (.d (.bool false)))) :: .r 3 (.mv (.t 19)) :: [])))
    (.reg (.r 20 (.mv (.t 4)) :: .r 21 (.mv (.t 20)) :: gapp [22, 23, 24, 25, 26] 21 true (.r 22 (.mv (.t 0)) :: .r 23 (.mv (.t 5)) :: .r 24 (.idx 1 (.t 22) (.t 23)) :: .r 25 (.ld1 (.t 24)) :: .r 26 (.bin .eql (.t 25) (.c (.d (.int .i64 3)))) :: []) (.r 27 (.pick (.t 21) (.t 26) (.c (.d (.bool false)))) :: .r 4 (.mv (.t 27)) :: [])))))
  (.reg [.r 10 (.mv (.t 5)),
     .r 11 (.bin .add (.t 10) (.c (.d (.int .i64 1)))),
     .r 5 (.mv (.t 11))])))
def sc_interchangeref7_together_B1 : SC := .block 0 (.loop sc_interchangeref7_together_L1)
/-- interchange/interchangeref7.together -/
def sc_interchangeref7_together : SC :=
  (.seq (.reg [.r 2 (.mv (.c (.d (.int .i64 0))))])
  (.seq (.reg [.r 3 (.mv (.c (.d (.bool true)))),
     .r 4 (.mv (.c (.d (.bool true))))])
  (.seq (.seq (.reg [.r 5 (.mv (.c (.d (.int .i64 0))))])
  sc_interchangeref7_together_B1)
  (.seq (.seq (.reg [.r 28 (.mv (.t 3))])
  (.cond (.t 28)
    (.seq (.reg [.r 2 (.mv (.c (.d (.int .i64 1))))])
    .ret)
    .skip))
  (.seq (.seq (.reg [.r 29 (.mv (.t 4))])
  (.cond (.t 29)
    (.seq (.reg [.r 2 (.mv (.c (.d (.int .i64 3))))])
    .ret)
    .skip))
  (.seq (.reg [.r 2 (.mv (.c (.d (.int .i64 2))))])
  .ret))))))
theorem fit_interchangeref7_together : fits Tryd.prog 95 Tryd.f95 sc_interchangeref7_together [.t 2] 1 = true := by kernel_rfl

def sc_interchangeref2_SameTexts_L1 : SC :=
  (.seq (.seq (.reg [.r 11 (.mv (.t 5)),
     .r 12 (.mv (.t 0)),
     .r 13 (.len (.t 12)),
     .r 14 (.bin .lss (.t 11) (.t 13))])
  (.cond (.t 14)
    .skip
    (.exit 0)))
  (.seq (.block 1 (.seq (.regD [.r 17 (.mv (.t 0)),
       .r 18 (.mv (.t 5)),
       .r 19 (.idx 1 (.t 17) (.t 18)),
       .r 20 (.ld1 (.t 19)),
       .r 21 (.mv (.t 1)),
       .r 22 (.mv (.t 5)),
       .r 23 (.idx 1 (.t 21) (.t 22)),
       .r 24 (.ld1 (.t 23)),
       .r 25 (.bin .neq (.t 20) (.t 24))])
    (.cond (.t 25)
      (.seq (.reg [.r 4 (.mv (.c (.d (.bool false))))])
      .ret)
      .skip)))
  (.reg [.r 15 (.mv (.t 5)),
     .r 16 (.bin .add (.t 15) (.c (.d (.int .i64 1)))),
     .r 5 (.mv (.t 16))])))
def sc_interchangeref2_SameTexts_B1 : SC := .block 0 (.loop sc_interchangeref2_SameTexts_L1)
/-- interchange/interchangeref2.SameTexts -/
def sc_interchangeref2_SameTexts : SC :=
  (.seq (.reg [.r 4 (.mv (.c (.d (.bool false))))])
  (.seq (.seq (.reg [.r 6 (.mv (.t 0)),
     .r 7 (.len (.t 6)),
     .r 8 (.mv (.t 1)),
     .r 9 (.len (.t 8)),
     .r 10 (.bin .neq (.t 7) (.t 9))])
  (.cond (.t 10)
    (.seq (.reg [.r 4 (.mv (.c (.d (.bool false))))])
    .ret)
    .skip))
  (.seq (.seq (.reg [.r 5 (.mv (.c (.d (.int .i64 0))))])
  sc_interchangeref2_SameTexts_B1)
  (.seq (.reg [.r 4 (.mv (.c (.d (.bool true))))])
  .ret))))
theorem fit_interchangeref2_SameTexts : fits Tryd.prog 96 Tryd.f96 sc_interchangeref2_SameTexts [.t 4] 2 = true := by kernel_rfl

set_option maxRecDepth 100000 in
set_option maxHeartbeats 40000000 in
noncomputable def sims_G5_0_0 : (∀ (x0 : Int) (x1 : Int) (x2 : Int), {m : Option (Bool) // ∀ r, m = some r → PureSpec Tryd.prog 55 [.int .i64 x0, .int .i64 x1, .int .i64 x2] (.bool r)}) × (∀ (x0 : Tapi_GroupReply) (y0 : Tapi_GroupReply), {m : Option (Bool) // ∀ r, m = some r → PureSpec Tryd.prog 89 [.agg (rTapi_GroupReply x0), .ptr (rTapi_GroupReply y0)] (.bool r)}) × (∀ (x0 : List Tapi_GroupReply) (f1 : FuncId) (c1 : List DV) (p1 : Tapi_GroupReply → Option (Bool)) (h1 : ∀ a0 r, p1 a0 = some r → PureSpec Tryd.prog f1 ([.agg (rTapi_GroupReply a0)] ++ c1) (.bool r)), {m : Option (Int) // ∀ r, m = some r → PureSpec Tryd.prog 134 [.slice (List.map rTapi_GroupReply x0), .fn f1 c1] (.int .i64 r)}) × (∀ (x0 : Tapi_MessageReply) (y0 : Tapi_MessageReply), {m : Option (Bool) // ∀ r, m = some r → PureSpec Tryd.prog 136 [.agg (rTapi_MessageReply x0), .ptr (rTapi_MessageReply y0)] (.bool r)}) × (∀ (x0 : List Tapi_MessageReply) (f1 : FuncId) (c1 : List DV) (p1 : Tapi_MessageReply → Option (Bool)) (h1 : ∀ a0 r, p1 a0 = some r → PureSpec Tryd.prog f1 ([.agg (rTapi_MessageReply a0)] ++ c1) (.bool r)), {m : Option (Int) // ∀ r, m = some r → PureSpec Tryd.prog 192 [.slice (List.map rTapi_MessageReply x0), .fn f1 c1] (.int .i64 r)}) × (∀ (x0 : Int) (y0 : Int), {m : Option (Bool) // ∀ r, m = some r → PureSpec Tryd.prog 139 [.int .i64 x0, .ptr (rowI y0)] (.bool r)}) × (∀ (x0 : List Int) (f1 : FuncId) (c1 : List DV) (p1 : Int → Option (Bool)) (h1 : ∀ a0 r, p1 a0 = some r → PureSpec Tryd.prog f1 ([.int .i64 a0] ++ c1) (.bool r)), {m : Option (Int) // ∀ r, m = some r → PureSpec Tryd.prog 194 [.slice (List.map rowI x0), .fn f1 c1] (.int .i64 r)}) × (∀ (x0 : List UInt8), {m : Option (Bool) // ∀ r, m = some r → PureSpec Tryd.prog 48 [.str x0] (.bool r)}) × (∀ (x0 : Int) (x1 : Int) (x2 : Int), {m : Option (Bool) // ∀ r, m = some r → PureSpec Tryd.prog 59 [.int .i64 x0, .int .i64 x1, .int .i64 x2] (.bool r)}) × (∀ (x0 : List UInt8), {m : Option (Bool) // ∀ r, m = some r → PureSpec Tryd.prog 142 [.str x0] (.bool r)}) × (∀ (x0 : List Int), {m : Option (Int) // ∀ r, m = some r → PureSpec Tryd.prog 95 [.slice (List.map rowI x0)] (.int .i64 r)}) × (∀ (x0 : List (List UInt8)) (x1 : List (List UInt8)), {m : Option (Bool) // ∀ r, m = some r → PureSpec Tryd.prog 96 [.slice (List.map rowS x0), .slice (List.map rowS x1)] (.bool r)}) := by
  refine ⟨?g0, ?g1, ?g2, ?g3, ?g4, ?g5, ?g6, ?g7, ?g8, ?g9, ?g10, ?g11⟩
  case' g0 => (intro x0 x1 x2; apply Subtype.mk; intro r hm; apply pure_walk Tryd.func55 fit_kit_Outside; unfold sc_kit_Outside)
  case' g1 => (intro x0 y0; apply Subtype.mk; intro r hm; apply pure_walk Tryd.func89 fit_reply_groupFault_1; unfold sc_reply_groupFault_1)
  case' g2 => (intro x0 f1 c1 p1 h1; apply Subtype.mk; intro r hm; apply pure_walk Tryd.func134 fit_slices_IndexFunc_interchange_api_GroupReply_interchange_api_GroupReply; unfold sc_slices_IndexFunc_interchange_api_GroupReply_interchange_api_GroupReply)
  case' g3 => (intro x0 y0; apply Subtype.mk; intro r hm; apply pure_walk Tryd.func136 fit_reply_messageFault_1; unfold sc_reply_messageFault_1)
  case' g4 => (intro x0 f1 c1 p1 h1; apply Subtype.mk; intro r hm; apply pure_walk Tryd.func192 fit_slices_IndexFunc_interchange_api_MessageReply_interchange_api_MessageReply; unfold sc_slices_IndexFunc_interchange_api_MessageReply_interchange_api_MessageReply)
  case' g5 => (intro x0 y0; apply Subtype.mk; intro r hm; apply pure_walk Tryd.func139 fit_reply_together_1_1; unfold sc_reply_together_1_1)
  case' g6 => (intro x0 f1 c1 p1 h1; apply Subtype.mk; intro r hm; apply pure_walk Tryd.func194 fit_slices_IndexFunc_int_int; unfold sc_slices_IndexFunc_int_int)
  case' g7 => (intro x0; apply Subtype.mk; intro r hm; apply pure_walk Tryd.func48 fit_interchangeref2_IsReference; unfold sc_interchangeref2_IsReference)
  case' g8 => (intro x0 x1 x2; apply Subtype.mk; intro r hm; apply pure_walk Tryd.func59 fit_interchangeref7_within; unfold sc_interchangeref7_within)
  case' g9 => (intro x0; apply Subtype.mk; intro r hm; apply pure_walk Tryd.func142 fit_interchangeref2_IsName; unfold sc_interchangeref2_IsName)
  case' g10 => (intro x0; apply Subtype.mk; intro r hm; apply pure_walk Tryd.func95 fit_interchangeref7_together; unfold sc_interchangeref7_together)
  case' g11 => (intro x0 x1; apply Subtype.mk; intro r hm; apply pure_walk Tryd.func96 fit_interchangeref2_SameTexts; unfold sc_interchangeref2_SameTexts)
  all_goals (repeat' (first | with_reducible refine W_seq ?_ | with_reducible refine W_reg ?_ | with_reducible refine W_regD ?_ | with_reducible refine W_block ?_ | with_reducible refine W_skip ?_ | with_reducible refine W_ret ?_ | with_reducible refine W_exit ?_ | with_reducible refine O_nil ?_ | with_reducible refine K_seq ?_ | with_reducible refine K_seqE ?_ | with_reducible refine K_seqR ?_ | with_reducible refine K_block ?_ | with_reducible refine K_blockR ?_ | with_reducible refine K_blockE ?_ | ((with_reducible apply K_blockN); decide) | with_reducible refine O_o2r ?_ | ((with_reducible apply O_idxr hm); (iterate 2 (simp only [push_cast, seval]; rfl)); (intro _; rfl); intro e hm) | ((with_reducible apply O_idxVr hm); (iterate 3 (simp only [push_cast, seval]; rfl)); intro e hm) | ((with_reducible apply O_sidxr hm); (iterate 2 (simp only [push_cast, seval]; rfl)); intro e hm) | ((with_reducible apply O_r); (simp only [push_cast, seval]; rfl); (first | exact trivial | omega)) | ((with_reducible apply O_ldV1r hm); (iterate 2 (simp only [push_cast, seval]; rfl)); (intro _; rfl); intro e hm) | ((with_reducible apply O_ldAVr hm); (iterate 2 (simp only [push_cast, seval]; rfl)); (intro _; rfl); intro e hm) | ((with_reducible apply O_strr hm); (iterate 2 (simp only [push_cast, seval]; rfl)); intro hm) | ((with_reducible apply O_and hm); (simp only [push_cast, seval]; rfl); rfl; intro v hm; rotate_left; intro v g hm) | ((with_reducible apply O_or hm); (simp only [push_cast, seval]; rfl); rfl; intro v hm; rotate_left; intro v g hm) | ((with_reducible apply W_condT); (focus (simp only [push_cast, seval]; done))) | ((with_reducible apply W_condF); (focus (simp only [push_cast, seval]; done))) | ((with_reducible apply O_cF hm); (simp only [push_cast, seval]; rfl); (first | apply h1 _); (any_goals ((repeat' (first | rfl | (with_reducible first | apply fT_Tapi_GroupReply | apply fT_Tapi_MessageReply | apply fT_Tapi_Flaw | apply fT_Tapi_Spot | apply f_optN | apply f_optS | apply f_some | apply f_tup | apply f_agg | apply f_ptr | apply f_fn | apply dv_slice | apply sv_d | apply f_cons | apply fold_nil | apply fold_cons | apply fold_app | apply f_rowI | apply f_rowY | apply f_rowS | apply f_rowB | apply f_rowL) | (with_reducible apply f_byte; decide))); done)); intro x hm) | ((with_reducible apply O_cvS hm); (iterate 2 (simp only [push_cast, seval]; rfl)); (focus (first | exact h1 _)); intro x hm) | ((with_reducible apply S_condB hm); (simp only [push_cast, seval]; rfl); intro hm; rotate_left; intro hm) | ((with_reducible apply K_endS hm); (focus (simp only [resOf, resL, RV.get, push_cast, seval]; rfl)); (focus ((repeat' (first | rfl | (with_reducible first | apply fT_Tapi_GroupReply | apply fT_Tapi_MessageReply | apply fT_Tapi_Flaw | apply fT_Tapi_Spot | apply f_optN | apply f_optS | apply f_some | apply f_tup | apply f_agg | apply f_ptr | apply f_fn | apply dv_slice | apply sv_d | apply f_cons | apply fold_nil | apply fold_cons | apply fold_app | apply f_rowI | apply f_rowY | apply f_rowS | apply f_rowB | apply f_rowL) | (with_reducible apply f_byte; decide))); done))) | ((with_reducible apply K_bool hm); (simp only [push_cast, seval]; rfl)) | ((with_reducible apply K_leave hm); intro r hm) | ((with_reducible apply K_leaveR hm); intro r hm) | ((apply S_loopY (b := 0) (X := sc_slices_IndexFunc_interchange_api_GroupReply_interchange_api_GroupReply_B1) (x := sc_slices_IndexFunc_interchange_api_GroupReply_interchange_api_GroupReply_L1) rfl (fun (c : SV × SV × SV) (s : Int) => st [(0, c.1), (1, c.2.1), (7, c.2.2), (8, .d (.int .i64 s))] []) (c := (_, _, _)) (s0 := _) hm); (focus (first | (dsimp only; done) | (dsimp only; rfl) | rfl)); (with_reducible refine Then.mk ?_ ?_)) | ((apply S_loopY (b := 0) (X := sc_slices_IndexFunc_interchange_api_MessageReply_interchange_api_MessageReply_B1) (x := sc_slices_IndexFunc_interchange_api_MessageReply_interchange_api_MessageReply_L1) rfl (fun (c : SV × SV × SV) (s : Int) => st [(0, c.1), (1, c.2.1), (7, c.2.2), (8, .d (.int .i64 s))] []) (c := (_, _, _)) (s0 := _) hm); (focus (first | (dsimp only; done) | (dsimp only; rfl) | rfl)); (with_reducible refine Then.mk ?_ ?_)) | ((apply S_loopY (b := 0) (X := sc_slices_IndexFunc_int_int_B1) (x := sc_slices_IndexFunc_int_int_L1) rfl (fun (c : SV × SV × SV) (s : Int) => st [(0, c.1), (1, c.2.1), (7, c.2.2), (8, .d (.int .i64 s))] []) (c := (_, _, _)) (s0 := _) hm); (focus (first | (dsimp only; done) | (dsimp only; rfl) | rfl)); (with_reducible refine Then.mk ?_ ?_)) | ((apply S_loopY (b := 0) (X := sc_interchangeref2_IsReference_B1) (x := sc_interchangeref2_IsReference_L1) rfl (fun (c : SV) (s : Int) => st [(0, c), (3, .d (.int .i64 s))] []) (c := _) (s0 := _) hm); (focus (first | (dsimp only; done) | (dsimp only; rfl) | rfl)); (with_reducible refine Then.mk ?_ ?_)) | ((apply S_loopY (b := 0) (X := sc_interchangeref2_IsName_B1) (x := sc_interchangeref2_IsName_L1) rfl (fun (c : SV) (s : Int) => st [(0, c), (3, .d (.int .i64 s))] []) (c := _) (s0 := _) hm); (focus (first | (dsimp only; done) | (dsimp only; rfl) | rfl)); (with_reducible refine Then.mk ?_ ?_)) | ((apply S_loopY (b := 0) (X := sc_interchangeref7_together_B1) (x := sc_interchangeref7_together_L1) rfl (fun (c : SV) (s : Bool × Bool × Int) => st [(0, c), (3, .d (.bool s.1)), (4, .d (.bool s.2.1)), (5, .d (.int .i64 s.2.2))] []) (c := _) (s0 := (_, _, _)) hm); (focus (first | (dsimp only; done) | (dsimp only; rfl) | rfl)); (with_reducible refine Then.mk ?_ ?_)) | ((apply S_loopY (b := 0) (X := sc_interchangeref2_SameTexts_B1) (x := sc_interchangeref2_SameTexts_L1) rfl (fun (c : SV × SV) (s : Int) => st [(0, c.1), (1, c.2), (5, .d (.int .i64 s))] []) (c := (_, _)) (s0 := _) hm); (focus (first | (dsimp only; done) | (dsimp only; rfl) | rfl)); (with_reducible refine Then.mk ?_ ?_)) | ((apply K_next (s' := (_, _, _)) hm); (focus (first | (dsimp only; done) | (dsimp only; rfl) | rfl))) | ((apply K_brk (s' := (_, _, _)) hm); (focus (first | (dsimp only; done) | (dsimp only; rfl) | rfl))) | ((apply K_next (s' := _) hm); (focus (first | (dsimp only; done) | (dsimp only; rfl) | rfl))) | ((apply K_brk (s' := _) hm); (focus (first | (dsimp only; done) | (dsimp only; rfl) | rfl))) | (((with_reducible apply K_brkN hm); (focus decide); intro r hm)) | (((with_reducible apply K_brkR hm); intro r hm)) | (((with_reducible apply LoopB.of); (focus (first | (dsimp only; done) | (dsimp only; rfl) | rfl)); (focus ((intro _; repeat' (first | with_reducible exact impC_end | with_reducible exact impC_endF | with_reducible refine impC_seq ?_ | with_reducible refine impC_block ?_ | ((with_reducible refine impC_rnd ?_); intro _) | ((with_reducible refine impC_brk ?_); intro _))))); (intro s o hm; first | unfold sc_slices_IndexFunc_interchange_api_GroupReply_interchange_api_GroupReply_L1 | unfold sc_slices_IndexFunc_interchange_api_MessageReply_interchange_api_MessageReply_L1 | unfold sc_slices_IndexFunc_int_int_L1 | unfold sc_interchangeref2_IsReference_L1 | unfold sc_interchangeref2_IsName_L1 | unfold sc_interchangeref7_together_L1 | unfold sc_interchangeref2_SameTexts_L1); rotate_left; intro s hm)) | (((apply imp_stT; (repeat' (first | with_reducible exact keepT_nil | with_reducible exact keepC_nil | with_reducible apply keepT_cons | with_reducible apply keepC_cons | ((with_reducible apply svle_eq); (focus (first | (simp only [push_cast, seval]; rfl) | rfl)); (focus ((repeat' (first | rfl | (with_reducible first | apply fT_Tapi_GroupReply | apply fT_Tapi_MessageReply | apply fT_Tapi_Flaw | apply fT_Tapi_Spot | apply f_optN | apply f_optS | apply f_some | apply f_tup | apply f_agg | apply f_ptr | apply f_fn | apply dv_slice | apply sv_d | apply f_cons | apply fold_nil | apply fold_cons | apply fold_app | apply f_rowI | apply f_rowY | apply f_rowS | apply f_rowB | apply f_rowL) | (with_reducible apply f_byte; decide))); done))) | ((with_reducible apply svle_td); (focus (first | (simp only [push_cast, seval]; rfl) | rfl)); (focus (first | (simp only [push_cast, seval]; rfl) | rfl)); (focus ((repeat' (first | rfl | (with_reducible first | apply fT_Tapi_GroupReply | apply fT_Tapi_MessageReply | apply fT_Tapi_Flaw | apply fT_Tapi_Spot | apply f_optN | apply f_optS | apply f_some | apply f_tup | apply f_agg | apply f_ptr | apply f_fn | apply dv_slice | apply sv_d | apply f_cons | apply fold_nil | apply fold_cons | apply fold_app | apply f_rowI | apply f_rowY | apply f_rowS | apply f_rowB | apply f_rowL) | (with_reducible apply f_byte; decide))); done))) | ((with_reducible apply chle_eq); (focus (first | (simp only [push_cast, seval]; rfl) | rfl)); (first | with_reducible exact chle_rfl rfl | with_reducible exact chle_map0 | with_reducible apply chle_vec | with_reducible apply chle_box)) | (with_reducible first | apply cT_Tapi_GroupReply | apply cT_Tapi_MessageReply | apply cT_Tapi_Flaw | apply cT_Tapi_Spot | apply r_shS | apply r_shI | apply r_rflO | apply r_oneO | apply r_appO | apply r_nilO | apply c_ownN | apply c_ownL | apply vc_rfl | apply vc_nil | apply vc_cons | apply r_rfl | apply r_rows | apply r_nil | apply r_app | apply r_cons | apply c_rowI | apply c_rowY | apply c_rowS | apply c_rowB | apply c_rowL))); done)))))
noncomputable def m_kit_Outside (x0 : Int) (x1 : Int) (x2 : Int) : Option (Bool) := (sims_G5_0_0.1 x0 x1 x2).1
theorem spec_kit_Outside (x0 : Int) (x1 : Int) (x2 : Int) : ∀ r, m_kit_Outside x0 x1 x2 = some r → PureSpec Tryd.prog 55 [.int .i64 x0, .int .i64 x1, .int .i64 x2] (.bool r) := (sims_G5_0_0.1 x0 x1 x2).2
noncomputable def m_reply_groupFault_1 (x0 : Tapi_GroupReply) (y0 : Tapi_GroupReply) : Option (Bool) := (sims_G5_0_0.2.1 x0 y0).1
theorem spec_reply_groupFault_1 (x0 : Tapi_GroupReply) (y0 : Tapi_GroupReply) : ∀ r, m_reply_groupFault_1 x0 y0 = some r → PureSpec Tryd.prog 89 [.agg (rTapi_GroupReply x0), .ptr (rTapi_GroupReply y0)] (.bool r) := (sims_G5_0_0.2.1 x0 y0).2
noncomputable def m_slices_IndexFunc_interchange_api_GroupReply_interchange_api_GroupReply (x0 : List Tapi_GroupReply) (f1 : FuncId) (c1 : List DV) (p1 : Tapi_GroupReply → Option (Bool)) (h1 : ∀ a0 r, p1 a0 = some r → PureSpec Tryd.prog f1 ([.agg (rTapi_GroupReply a0)] ++ c1) (.bool r)) : Option (Int) := (sims_G5_0_0.2.2.1 x0 f1 c1 p1 h1).1
theorem spec_slices_IndexFunc_interchange_api_GroupReply_interchange_api_GroupReply (x0 : List Tapi_GroupReply) (f1 : FuncId) (c1 : List DV) (p1 : Tapi_GroupReply → Option (Bool)) (h1 : ∀ a0 r, p1 a0 = some r → PureSpec Tryd.prog f1 ([.agg (rTapi_GroupReply a0)] ++ c1) (.bool r)) : ∀ r, m_slices_IndexFunc_interchange_api_GroupReply_interchange_api_GroupReply x0 f1 c1 p1 h1 = some r → PureSpec Tryd.prog 134 [.slice (List.map rTapi_GroupReply x0), .fn f1 c1] (.int .i64 r) := (sims_G5_0_0.2.2.1 x0 f1 c1 p1 h1).2
noncomputable def m_reply_messageFault_1 (x0 : Tapi_MessageReply) (y0 : Tapi_MessageReply) : Option (Bool) := (sims_G5_0_0.2.2.2.1 x0 y0).1
theorem spec_reply_messageFault_1 (x0 : Tapi_MessageReply) (y0 : Tapi_MessageReply) : ∀ r, m_reply_messageFault_1 x0 y0 = some r → PureSpec Tryd.prog 136 [.agg (rTapi_MessageReply x0), .ptr (rTapi_MessageReply y0)] (.bool r) := (sims_G5_0_0.2.2.2.1 x0 y0).2
noncomputable def m_slices_IndexFunc_interchange_api_MessageReply_interchange_api_MessageReply (x0 : List Tapi_MessageReply) (f1 : FuncId) (c1 : List DV) (p1 : Tapi_MessageReply → Option (Bool)) (h1 : ∀ a0 r, p1 a0 = some r → PureSpec Tryd.prog f1 ([.agg (rTapi_MessageReply a0)] ++ c1) (.bool r)) : Option (Int) := (sims_G5_0_0.2.2.2.2.1 x0 f1 c1 p1 h1).1
theorem spec_slices_IndexFunc_interchange_api_MessageReply_interchange_api_MessageReply (x0 : List Tapi_MessageReply) (f1 : FuncId) (c1 : List DV) (p1 : Tapi_MessageReply → Option (Bool)) (h1 : ∀ a0 r, p1 a0 = some r → PureSpec Tryd.prog f1 ([.agg (rTapi_MessageReply a0)] ++ c1) (.bool r)) : ∀ r, m_slices_IndexFunc_interchange_api_MessageReply_interchange_api_MessageReply x0 f1 c1 p1 h1 = some r → PureSpec Tryd.prog 192 [.slice (List.map rTapi_MessageReply x0), .fn f1 c1] (.int .i64 r) := (sims_G5_0_0.2.2.2.2.1 x0 f1 c1 p1 h1).2
noncomputable def m_reply_together_1_1 (x0 : Int) (y0 : Int) : Option (Bool) := (sims_G5_0_0.2.2.2.2.2.1 x0 y0).1
theorem spec_reply_together_1_1 (x0 : Int) (y0 : Int) : ∀ r, m_reply_together_1_1 x0 y0 = some r → PureSpec Tryd.prog 139 [.int .i64 x0, .ptr (rowI y0)] (.bool r) := (sims_G5_0_0.2.2.2.2.2.1 x0 y0).2
noncomputable def m_slices_IndexFunc_int_int (x0 : List Int) (f1 : FuncId) (c1 : List DV) (p1 : Int → Option (Bool)) (h1 : ∀ a0 r, p1 a0 = some r → PureSpec Tryd.prog f1 ([.int .i64 a0] ++ c1) (.bool r)) : Option (Int) := (sims_G5_0_0.2.2.2.2.2.2.1 x0 f1 c1 p1 h1).1
theorem spec_slices_IndexFunc_int_int (x0 : List Int) (f1 : FuncId) (c1 : List DV) (p1 : Int → Option (Bool)) (h1 : ∀ a0 r, p1 a0 = some r → PureSpec Tryd.prog f1 ([.int .i64 a0] ++ c1) (.bool r)) : ∀ r, m_slices_IndexFunc_int_int x0 f1 c1 p1 h1 = some r → PureSpec Tryd.prog 194 [.slice (List.map rowI x0), .fn f1 c1] (.int .i64 r) := (sims_G5_0_0.2.2.2.2.2.2.1 x0 f1 c1 p1 h1).2
noncomputable def m_interchangeref2_IsReference (x0 : List UInt8) : Option (Bool) := (sims_G5_0_0.2.2.2.2.2.2.2.1 x0).1
theorem spec_interchangeref2_IsReference (x0 : List UInt8) : ∀ r, m_interchangeref2_IsReference x0 = some r → PureSpec Tryd.prog 48 [.str x0] (.bool r) := (sims_G5_0_0.2.2.2.2.2.2.2.1 x0).2
noncomputable def m_interchangeref7_within (x0 : Int) (x1 : Int) (x2 : Int) : Option (Bool) := (sims_G5_0_0.2.2.2.2.2.2.2.2.1 x0 x1 x2).1
theorem spec_interchangeref7_within (x0 : Int) (x1 : Int) (x2 : Int) : ∀ r, m_interchangeref7_within x0 x1 x2 = some r → PureSpec Tryd.prog 59 [.int .i64 x0, .int .i64 x1, .int .i64 x2] (.bool r) := (sims_G5_0_0.2.2.2.2.2.2.2.2.1 x0 x1 x2).2
noncomputable def m_interchangeref2_IsName (x0 : List UInt8) : Option (Bool) := (sims_G5_0_0.2.2.2.2.2.2.2.2.2.1 x0).1
theorem spec_interchangeref2_IsName (x0 : List UInt8) : ∀ r, m_interchangeref2_IsName x0 = some r → PureSpec Tryd.prog 142 [.str x0] (.bool r) := (sims_G5_0_0.2.2.2.2.2.2.2.2.2.1 x0).2
noncomputable def m_interchangeref7_together (x0 : List Int) : Option (Int) := (sims_G5_0_0.2.2.2.2.2.2.2.2.2.2.1 x0).1
theorem spec_interchangeref7_together (x0 : List Int) : ∀ r, m_interchangeref7_together x0 = some r → PureSpec Tryd.prog 95 [.slice (List.map rowI x0)] (.int .i64 r) := (sims_G5_0_0.2.2.2.2.2.2.2.2.2.2.1 x0).2
noncomputable def m_interchangeref2_SameTexts (x0 : List (List UInt8)) (x1 : List (List UInt8)) : Option (Bool) := (sims_G5_0_0.2.2.2.2.2.2.2.2.2.2.2 x0 x1).1
theorem spec_interchangeref2_SameTexts (x0 : List (List UInt8)) (x1 : List (List UInt8)) : ∀ r, m_interchangeref2_SameTexts x0 x1 = some r → PureSpec Tryd.prog 96 [.slice (List.map rowS x0), .slice (List.map rowS x1)] (.bool r) := (sims_G5_0_0.2.2.2.2.2.2.2.2.2.2.2 x0 x1).2

/-- interchange/kit.IsRef -/
def sc_kit_IsRef : SC :=
  (.seq (.reg [.r 2 (.mv (.c (.d (.bool false))))])
  (.seq (.reg (.r 3 (.mv (.t 0)) :: .r 4 (.lenT (.t 3)) :: .r 5 (.bin .geq (.t 4) (.c (.d (.int .i64 1)))) :: .r 6 (.mv (.t 5)) :: gapp [7, 8, 9] 6 true (.r 7 (.mv (.t 0)) :: .r 8 (.lenT (.t 7)) :: .r 9 (.bin .leq (.t 8) (.c (.d (.int .i64 14)))) :: []) (.r 10 (.pick (.t 6) (.t 9) (.c (.d (.bool false)))) :: .r 11 (.mv (.t 10)) :: gapp [12, 13, 14] 11 true (.r 12 (.mv (.t 0)) :: .c 13 (.f 87) [.t 12, .c (.d (.str [65, 66, 67, 68, 69, 70, 71, 72, 73, 74, 75, 76, 77, 78, 79, 80, 81, 82, 83, 84, 85, 86, 87, 88, 89, 90, 48, 49, 50, 51, 52, 53, 54, 55, 56, 57, 45]))] :: .r 14 (.bin .eql (.t 13) (.c (.d (.str [])))) :: []) (.r 15 (.pick (.t 11) (.t 14) (.c (.d (.bool false)))) :: .r 2 (.mv (.t 15)) :: []))))
  .ret))
theorem fit_kit_IsRef : fits Tryd.prog 44 Tryd.f44 sc_kit_IsRef [.t 2] 1 = true := by kernel_rfl

/-- interchange/reply.isVerdict -/
def sc_reply_isVerdict : SC :=
  (.seq (.reg [.r 2 (.mv (.c (.d (.bool false))))])
  (.seq (.reg [.r 3 (.mv (.t 0)),
     .c 4 (.f 55) [.t 3, .c (.d (.int .i64 1)), .c (.d (.int .i64 3))],
     .r 5 (.not (.t 4)),
     .r 2 (.mv (.t 5))])
  .ret))
theorem fit_reply_isVerdict : fits Tryd.prog 45 Tryd.f45 sc_reply_isVerdict [.t 2] 1 = true := by kernel_rfl

/-- slices.ContainsFunc[[]interchange/api.GroupReply,interchange/api.GroupReply] -/
def sc_slices_ContainsFunc_interchange_api_GroupReply_interchange_api_GroupReply : SC :=
  (.seq (.reg [.r 4 (.mv (.c (.d (.bool false))))])
  (.seq (.reg [.r 5 (.mv (.t 0)),
     .r 6 (.mv (.t 1)),
     .c 7 (.f 134) [.t 5, .t 6],
     .r 8 (.bin .geq (.t 7) (.c (.d (.int .i64 0)))),
     .r 4 (.mv (.t 8))])
  .ret))
theorem fit_slices_ContainsFunc_interchange_api_GroupReply_interchange_api_GroupReply : fits Tryd.prog 88 Tryd.f88 sc_slices_ContainsFunc_interchange_api_GroupReply_interchange_api_GroupReply [.t 4] 2 = true := by kernel_rfl

/-- slices.ContainsFunc[[]interchange/api.MessageReply,interchange/api.MessageReply] -/
def sc_slices_ContainsFunc_interchange_api_MessageReply_interchange_api_MessageReply : SC :=
  (.seq (.reg [.r 4 (.mv (.c (.d (.bool false))))])
  (.seq (.reg [.r 5 (.mv (.t 0)),
     .r 6 (.mv (.t 1)),
     .c 7 (.f 192) [.t 5, .t 6],
     .r 8 (.bin .geq (.t 7) (.c (.d (.int .i64 0)))),
     .r 4 (.mv (.t 8))])
  .ret))
theorem fit_slices_ContainsFunc_interchange_api_MessageReply_interchange_api_MessageReply : fits Tryd.prog 135 Tryd.f135 sc_slices_ContainsFunc_interchange_api_MessageReply_interchange_api_MessageReply [.t 4] 2 = true := by kernel_rfl

/-- interchange/reply.isFlaw -/
def sc_reply_isFlaw : SC :=
  (.seq (.reg [.r 2 (.mv (.c (.d (.bool false))))])
  (.seq (.reg [.r 3 (.mv (.t 0)),
     .c 4 (.f 55) [.t 3, .c (.d (.int .i64 1)), .c (.d (.int .i64 12))],
     .r 5 (.not (.t 4)),
     .r 2 (.mv (.t 5))])
  .ret))
theorem fit_reply_isFlaw : fits Tryd.prog 193 Tryd.f193 sc_reply_isFlaw [.t 2] 1 = true := by kernel_rfl

/-- interchange/kit.IsName -/
def sc_kit_IsName : SC :=
  (.seq (.reg [.r 2 (.mv (.c (.d (.bool false))))])
  (.seq (.seq (.reg (.r 3 (.mv (.t 0)) :: .r 4 (.lenT (.t 3)) :: .r 5 (.bin .lss (.t 4) (.c (.d (.int .i64 1)))) :: .r 6 (.mv (.t 5)) :: gapp [7, 8, 9] 6 false (.r 7 (.mv (.t 0)) :: .r 8 (.lenT (.t 7)) :: .r 9 (.bin .gtr (.t 8) (.c (.d (.int .i64 40)))) :: []) (.r 10 (.pick (.t 6) (.c (.d (.bool true))) (.t 9)) :: .r 11 (.mv (.t 10)) :: gapp [12, 13, 14] 11 false (.r 12 (.mv (.t 0)) :: .r 13 (.sidx (.t 12) (.c (.d (.int .i64 0)))) :: .r 14 (.bin .lss (.t 13) (.c (.d (.int .u8 97)))) :: []) (.r 15 (.pick (.t 11) (.c (.d (.bool true))) (.t 14)) :: .r 16 (.mv (.t 15)) :: gapp [17, 18, 19] 16 false (.r 17 (.mv (.t 0)) :: .r 18 (.sidx (.t 17) (.c (.d (.int .i64 0)))) :: .r 19 (.bin .gtr (.t 18) (.c (.d (.int .u8 122)))) :: []) (.r 20 (.pick (.t 16) (.c (.d (.bool true))) (.t 19)) :: [])))))
  (.cond (.t 20)
    (.seq (.reg [.r 2 (.mv (.c (.d (.bool false))))])
    .ret)
    .skip))
  (.seq (.reg [.r 21 (.mv (.t 0)),
     .c 22 (.f 87) [.t 21, .c (.d (.str [97, 98, 99, 100, 101, 102, 103, 104, 105, 106, 107, 108, 109, 110, 111, 112, 113, 114, 115, 116, 117, 118, 119, 120, 121, 122, 48, 49, 50, 51, 52, 53, 54, 55, 56, 57, 45]))],
     .r 23 (.bin .eql (.t 22) (.c (.d (.str [])))),
     .r 2 (.mv (.t 23))])
  .ret)))
theorem fit_kit_IsName : fits Tryd.prog 67 Tryd.f67 sc_kit_IsName [.t 2] 1 = true := by kernel_rfl

/-- interchange/reply.together$1 -/
def sc_reply_together_1 : SC :=
  (.seq (.reg [.r 1 (.boxI (.t 0)),
     .r 2 (.mv (.c (.d (.raw .nilFunc))))])
  (.seq (.reg [.r 3 (.mkfn 139 [.t 1]),
     .r 2 (.mv (.t 3))])
  .ret))
theorem fit_reply_together_1 : fits Tryd.prog 138 Tryd.f138 sc_reply_together_1 [.t 2] 1 = true := by kernel_rfl

/-- slices.ContainsFunc[[]int,int] -/
def sc_slices_ContainsFunc_int_int : SC :=
  (.seq (.reg [.r 4 (.mv (.c (.d (.bool false))))])
  (.seq (.reg [.r 5 (.mv (.t 0)),
     .r 6 (.mv (.t 1)),
     .c 7 (.f 194) [.t 5, .t 6],
     .r 8 (.bin .geq (.t 7) (.c (.d (.int .i64 0)))),
     .r 4 (.mv (.t 8))])
  .ret))
theorem fit_slices_ContainsFunc_int_int : fits Tryd.prog 140 Tryd.f140 sc_slices_ContainsFunc_int_int [.t 4] 2 = true := by kernel_rfl

/-- interchange/interchangeref7.isVerdict -/
def sc_interchangeref7_isVerdict : SC :=
  (.seq (.reg [.r 2 (.mv (.c (.d (.bool false))))])
  (.seq (.reg [.r 3 (.mv (.t 0)),
     .c 4 (.f 59) [.t 3, .c (.d (.int .i64 1)), .c (.d (.int .i64 3))],
     .r 2 (.mv (.t 4))])
  .ret))
theorem fit_interchangeref7_isVerdict : fits Tryd.prog 49 Tryd.f49 sc_interchangeref7_isVerdict [.t 2] 1 = true := by kernel_rfl

def sc_interchangeref7_checkFlaws_L1 : SC :=
  (.seq (.seq (.reg [.r 8 (.mv (.t 3)),
     .r 9 (.mv (.t 0)),
     .r 10 (.len (.t 9)),
     .r 11 (.bin .lss (.t 8) (.t 10))])
  (.cond (.t 11)
    .skip
    (.exit 0)))
  (.seq (.block 1 (.seq (.reg [.r 14 (.mv (.t 0)),
       .r 15 (.mv (.t 3)),
       .r 16 (.idx 6 (.t 14) (.t 15)),
       .o 17 (.ldA 6 (.t 16)),
       .w 4 (.boxM (.c (.agg [.d (.int .i64 0), .d (.int .i64 0), .d (.int .i64 0), .d (.int .i64 0), .d (.int .i64 0), .d (.str [])]))),
       .w 0 (.st 6 (.t 4) (.t 17))])
    (.seq (.seq (.reg [.r 18 (.fld 0 (.t 4)),
       .o 19 (.ld1 (.t 18)),
       .c 20 (.f 59) [.t 19, .c (.d (.int .i64 1)), .c (.d (.int .i64 12))],
       .r 21 (.not (.t 20))])
    (.cond (.t 21)
      (.seq (.reg [.r 2 (.mv (.c (.d (.int .i64 4))))])
      .ret)
      .skip))
    (.seq (.seq (.reg (.r 22 (.fld 1 (.t 4)) :: .o 23 (.ld1 (.t 22)) :: .c 24 (.f 59) [.t 23, .c (.d (.int .i64 0)), .c (.d (.int .i64 2000))] :: .r 25 (.not (.t 24)) :: .r 26 (.mv (.t 25)) :: gapp [27, 28, 29, 30, 31] 26 false (.r 27 (.fld 2 (.t 4)) :: .r 28 (.fld 0 (.t 27)) :: .r 29 (.ld1 (.t 28)) :: .c 30 (.f 59) [.t 29, .c (.d (.int .i64 0)), .c (.d (.int .i64 51))] :: .r 31 (.not (.t 30)) :: []) (.r 32 (.pick (.t 26) (.c (.d (.bool true))) (.t 31)) :: .r 33 (.mv (.t 32)) :: gapp [34, 35, 36, 37, 38] 33 false (.r 34 (.fld 2 (.t 4)) :: .r 35 (.fld 1 (.t 34)) :: .r 36 (.ld1 (.t 35)) :: .c 37 (.f 59) [.t 36, .c (.d (.int .i64 0)), .c (.d (.int .i64 21))] :: .r 38 (.not (.t 37)) :: []) (.r 39 (.pick (.t 33) (.c (.d (.bool true))) (.t 38)) :: .r 40 (.mv (.t 39)) :: gapp [41, 42, 43, 44, 45] 40 false (.r 41 (.fld 2 (.t 4)) :: .r 42 (.fld 2 (.t 41)) :: .r 43 (.ld1 (.t 42)) :: .c 44 (.f 59) [.t 43, .c (.d (.int .i64 0)), .c (.d (.int .i64 21))] :: .r 45 (.not (.t 44)) :: []) (.r 46 (.pick (.t 40) (.c (.d (.bool true))) (.t 45)) :: [])))))
    (.cond (.t 46)
      (.seq (.reg [.r 2 (.mv (.c (.d (.int .i64 1))))])
      .ret)
      .skip))
    (.seq (.seq (.reg (.r 47 (.fld 5 (.t 4)) :: .o 48 (.ld1 (.t 47)) :: .r 49 (.bin .neq (.t 48) (.c (.d (.str [])))) :: .r 50 (.mv (.t 49)) :: gapp [51, 52, 53, 54] 50 true (.r 51 (.fld 5 (.t 4)) :: .r 52 (.ld1 (.t 51)) :: .c 53 (.f 195) [.t 52] :: .r 54 (.not (.t 53)) :: []) (.r 55 (.pick (.t 50) (.t 54) (.c (.d (.bool false)))) :: .r 56 (.mv (.t 55)) :: gapp [57, 58, 59, 60] 56 true (.r 57 (.fld 5 (.t 4)) :: .r 58 (.ld1 (.t 57)) :: .c 59 (.f 142) [.t 58] :: .r 60 (.not (.t 59)) :: []) (.r 61 (.pick (.t 56) (.t 60) (.c (.d (.bool false)))) :: []))))
    (.cond (.t 61)
      (.seq (.reg [.r 2 (.mv (.c (.d (.int .i64 3))))])
      .ret)
      .skip))
    (.seq (.regD (.r 62 (.mv (.t 3)) :: .r 63 (.bin .gtr (.t 62) (.c (.d (.int .i64 0)))) :: .r 64 (.mv (.t 63)) :: gapp [65, 66, 67, 68, 69, 70, 71, 72, 73] 64 true (.r 65 (.fld 1 (.t 4)) :: .r 66 (.ld1 (.t 65)) :: .r 67 (.mv (.t 0)) :: .r 68 (.mv (.t 3)) :: .r 69 (.bin .sub (.t 68) (.c (.d (.int .i64 1)))) :: .r 70 (.idx 6 (.t 67) (.t 69)) :: .r 71 (.fld 1 (.t 70)) :: .r 72 (.ld1 (.t 71)) :: .r 73 (.bin .lss (.t 66) (.t 72)) :: []) (.r 74 (.pick (.t 64) (.t 73) (.c (.d (.bool false)))) :: [])))
    (.cond (.t 74)
      (.seq (.reg [.r 2 (.mv (.c (.d (.int .i64 8))))])
      .ret)
      .skip)))))))
  (.reg [.r 12 (.mv (.t 3)),
     .r 13 (.bin .add (.t 12) (.c (.d (.int .i64 1)))),
     .r 3 (.mv (.t 13))])))
def sc_interchangeref7_checkFlaws_B1 : SC := .block 0 (.loop sc_interchangeref7_checkFlaws_L1)
/-- interchange/interchangeref7.checkFlaws -/
def sc_interchangeref7_checkFlaws : SC :=
  (.seq (.reg [.r 2 (.mv (.c (.d (.int .i64 0))))])
  (.seq (.seq (.reg [.r 5 (.mv (.t 0)),
     .r 6 (.len (.t 5)),
     .r 7 (.bin .gtr (.t 6) (.c (.d (.int .i64 500))))])
  (.cond (.t 7)
    (.seq (.reg [.r 2 (.mv (.c (.d (.int .i64 2))))])
    .ret)
    .skip))
  (.seq (.seq (.reg [.r 3 (.mv (.c (.d (.int .i64 0))))])
  sc_interchangeref7_checkFlaws_B1)
  (.seq (.reg [.r 2 (.mv (.c (.d (.int .i64 0))))])
  .ret))))
theorem fit_interchangeref7_checkFlaws : fits Tryd.prog 141 Tryd.f141 sc_interchangeref7_checkFlaws [.t 2] 1 = true := by kernel_rfl

def sc_interchangeref7_OfGroup_L1 : SC :=
  (.seq (.seq (.reg [.r 5 (.mv (.t 4)),
     .r 6 (.fld 2 (.t 1)),
     .o 7 (.ld1 (.t 6)),
     .r 8 (.len (.t 7)),
     .r 9 (.bin .lss (.t 5) (.t 8))])
  (.cond (.t 9)
    .skip
    (.exit 0)))
  (.seq (.block 1 (.reg [.r 12 (.mv (.t 3)),
       .r 13 (.fld 2 (.t 1)),
       .o 14 (.ld1 (.t 13)),
       .r 15 (.mv (.t 4)),
       .r 16 (.idx 5 (.t 14) (.t 15)),
       .r 17 (.fld 1 (.t 16)),
       .o 18 (.ld1 (.t 17)),
       .r 19 (.bslice 1 [.t 18]),
       .w 20 (.app 3 1 (.t 12) (.t 19)),
       .r 3 (.mv (.t 20))]))
  (.reg [.r 10 (.mv (.t 4)),
     .r 11 (.bin .add (.t 10) (.c (.d (.int .i64 1)))),
     .r 4 (.mv (.t 11))])))
def sc_interchangeref7_OfGroup_B1 : SC := .block 0 (.loop sc_interchangeref7_OfGroup_L1)
/-- interchange/interchangeref7.OfGroup -/
def sc_interchangeref7_OfGroup : SC :=
  (.seq (.reg [.r 1 (.boxI (.t 0)),
     .r 2 (.mv (.c (.d (.int .i64 0))))])
  (.seq (.reg [.r 3 (.mv (.c (.nils)))])
  (.seq (.seq (.reg [.r 4 (.mv (.c (.d (.int .i64 0))))])
  sc_interchangeref7_OfGroup_B1)
  (.seq (.reg [.r 21 (.mv (.t 3)),
     .c 22 (.f 95) [.t 21],
     .r 2 (.mv (.t 22))])
  .ret))))
theorem fit_interchangeref7_OfGroup : fits Tryd.prog 94 Tryd.f94 sc_interchangeref7_OfGroup [.t 2] 1 = true := by kernel_rfl

def sc_interchangeref7_OfAll_L1 : SC :=
  (.seq (.seq (.reg [.r 5 (.mv (.t 4)),
     .r 6 (.fld 2 (.t 1)),
     .o 7 (.ld1 (.t 6)),
     .r 8 (.len (.t 7)),
     .r 9 (.bin .lss (.t 5) (.t 8))])
  (.cond (.t 9)
    .skip
    (.exit 0)))
  (.seq (.block 1 (.reg [.r 12 (.mv (.t 3)),
       .r 13 (.fld 2 (.t 1)),
       .o 14 (.ld1 (.t 13)),
       .r 15 (.mv (.t 4)),
       .r 16 (.idx 3 (.t 14) (.t 15)),
       .r 17 (.fld 1 (.t 16)),
       .o 18 (.ld1 (.t 17)),
       .r 19 (.bslice 1 [.t 18]),
       .w 20 (.app 3 1 (.t 12) (.t 19)),
       .r 3 (.mv (.t 20))]))
  (.reg [.r 10 (.mv (.t 4)),
     .r 11 (.bin .add (.t 10) (.c (.d (.int .i64 1)))),
     .r 4 (.mv (.t 11))])))
def sc_interchangeref7_OfAll_B1 : SC := .block 0 (.loop sc_interchangeref7_OfAll_L1)
/-- interchange/interchangeref7.OfAll -/
def sc_interchangeref7_OfAll : SC :=
  (.seq (.reg [.r 1 (.boxI (.t 0)),
     .r 2 (.mv (.c (.d (.int .i64 0))))])
  (.seq (.reg [.r 3 (.mv (.c (.nils)))])
  (.seq (.seq (.reg [.r 4 (.mv (.c (.d (.int .i64 0))))])
  sc_interchangeref7_OfAll_B1)
  (.seq (.reg [.r 21 (.mv (.t 3)),
     .c 22 (.f 95) [.t 21],
     .r 2 (.mv (.t 22))])
  .ret))))
theorem fit_interchangeref7_OfAll : fits Tryd.prog 51 Tryd.f51 sc_interchangeref7_OfAll [.t 2] 1 = true := by kernel_rfl

set_option maxRecDepth 100000 in
set_option maxHeartbeats 40000000 in
noncomputable def sims_G5_1_0 : (∀ (x0 : List UInt8), {m : Option (Bool) // ∀ r, m = some r → PureSpec Tryd.prog 44 [.str x0] (.bool r)}) × (∀ (x0 : Int), {m : Option (Bool) // ∀ r, m = some r → PureSpec Tryd.prog 45 [.int .i64 x0] (.bool r)}) × (∀ (x0 : List Tapi_GroupReply) (f1 : FuncId) (c1 : List DV) (p1 : Tapi_GroupReply → Option (Bool)) (h1 : ∀ a0 r, p1 a0 = some r → PureSpec Tryd.prog f1 ([.agg (rTapi_GroupReply a0)] ++ c1) (.bool r)), {m : Option (Bool) // ∀ r, m = some r → PureSpec Tryd.prog 88 [.slice (List.map rTapi_GroupReply x0), .fn f1 c1] (.bool r)}) × (∀ (x0 : List Tapi_MessageReply) (f1 : FuncId) (c1 : List DV) (p1 : Tapi_MessageReply → Option (Bool)) (h1 : ∀ a0 r, p1 a0 = some r → PureSpec Tryd.prog f1 ([.agg (rTapi_MessageReply a0)] ++ c1) (.bool r)), {m : Option (Bool) // ∀ r, m = some r → PureSpec Tryd.prog 135 [.slice (List.map rTapi_MessageReply x0), .fn f1 c1] (.bool r)}) × (∀ (x0 : Int), {m : Option (Bool) // ∀ r, m = some r → PureSpec Tryd.prog 193 [.int .i64 x0] (.bool r)}) × (∀ (x0 : List UInt8), {m : Option (Bool) // ∀ r, m = some r → PureSpec Tryd.prog 67 [.str x0] (.bool r)}) × (∀ (x0 : Int), {m : Option (Int) // ∀ r, m = some r → PureSpec Tryd.prog 138 [.int .i64 x0] (.fn 139 [.ptr (rowI r)])}) × (∀ (x0 : List Int) (f1 : FuncId) (c1 : List DV) (p1 : Int → Option (Bool)) (h1 : ∀ a0 r, p1 a0 = some r → PureSpec Tryd.prog f1 ([.int .i64 a0] ++ c1) (.bool r)), {m : Option (Bool) // ∀ r, m = some r → PureSpec Tryd.prog 140 [.slice (List.map rowI x0), .fn f1 c1] (.bool r)}) × (∀ (x0 : Int), {m : Option (Bool) // ∀ r, m = some r → PureSpec Tryd.prog 49 [.int .i64 x0] (.bool r)}) × (∀ (x0 : List Tapi_Flaw), {m : Option (Int) // ∀ r, m = some r → PureSpec Tryd.prog 141 [.slice (List.map rTapi_Flaw x0)] (.int .i64 r)}) × (∀ (x0 : Tapi_GroupReply), {m : Option (Int) // ∀ r, m = some r → PureSpec Tryd.prog 94 [.agg (rTapi_GroupReply x0)] (.int .i64 r)}) × (∀ (x0 : Tapi_Reply), {m : Option (Int) // ∀ r, m = some r → PureSpec Tryd.prog 51 [.agg (rTapi_Reply x0)] (.int .i64 r)}) := by
  refine ⟨?g0, ?g1, ?g2, ?g3, ?g4, ?g5, ?g6, ?g7, ?g8, ?g9, ?g10, ?g11⟩
  case' g0 => (intro x0; apply Subtype.mk; intro r hm; apply pure_walk Tryd.func44 fit_kit_IsRef; unfold sc_kit_IsRef)
  case' g1 => (intro x0; apply Subtype.mk; intro r hm; apply pure_walk Tryd.func45 fit_reply_isVerdict; unfold sc_reply_isVerdict)
  case' g2 => (intro x0 f1 c1 p1 h1; apply Subtype.mk; intro r hm; apply pure_walk Tryd.func88 fit_slices_ContainsFunc_interchange_api_GroupReply_interchange_api_GroupReply; unfold sc_slices_ContainsFunc_interchange_api_GroupReply_interchange_api_GroupReply)
  case' g3 => (intro x0 f1 c1 p1 h1; apply Subtype.mk; intro r hm; apply pure_walk Tryd.func135 fit_slices_ContainsFunc_interchange_api_MessageReply_interchange_api_MessageReply; unfold sc_slices_ContainsFunc_interchange_api_MessageReply_interchange_api_MessageReply)
  case' g4 => (intro x0; apply Subtype.mk; intro r hm; apply pure_walk Tryd.func193 fit_reply_isFlaw; unfold sc_reply_isFlaw)
  case' g5 => (intro x0; apply Subtype.mk; intro r hm; apply pure_walk Tryd.func67 fit_kit_IsName; unfold sc_kit_IsName)
  case' g6 => (intro x0; apply Subtype.mk; intro r hm; apply pure_walk Tryd.func138 fit_reply_together_1; unfold sc_reply_together_1)
  case' g7 => (intro x0 f1 c1 p1 h1; apply Subtype.mk; intro r hm; apply pure_walk Tryd.func140 fit_slices_ContainsFunc_int_int; unfold sc_slices_ContainsFunc_int_int)
  case' g8 => (intro x0; apply Subtype.mk; intro r hm; apply pure_walk Tryd.func49 fit_interchangeref7_isVerdict; unfold sc_interchangeref7_isVerdict)
  case' g9 => (intro x0; apply Subtype.mk; intro r hm; apply pure_walk Tryd.func141 fit_interchangeref7_checkFlaws; unfold sc_interchangeref7_checkFlaws)
  case' g10 => (intro x0; apply Subtype.mk; intro r hm; apply pure_walk Tryd.func94 fit_interchangeref7_OfGroup; unfold sc_interchangeref7_OfGroup)
  case' g11 => (intro x0; apply Subtype.mk; intro r hm; apply pure_walk Tryd.func51 fit_interchangeref7_OfAll; unfold sc_interchangeref7_OfAll)
  all_goals (repeat' (first | with_reducible refine W_seq ?_ | with_reducible refine W_reg ?_ | with_reducible refine W_regD ?_ | with_reducible refine W_block ?_ | with_reducible refine W_skip ?_ | with_reducible refine W_ret ?_ | with_reducible refine W_exit ?_ | with_reducible refine O_nil ?_ | with_reducible refine K_seq ?_ | with_reducible refine K_seqE ?_ | with_reducible refine K_seqR ?_ | with_reducible refine K_block ?_ | with_reducible refine K_blockR ?_ | with_reducible refine K_blockE ?_ | ((with_reducible apply K_blockN); decide) | with_reducible refine O_o2r ?_ | ((with_reducible apply O_idxr hm); (iterate 2 (simp only [push_cast, seval]; rfl)); (intro _; rfl); intro e hm) | ((with_reducible apply O_idxVr hm); (iterate 3 (simp only [push_cast, seval]; rfl)); intro e hm) | ((with_reducible apply O_sidxr hm); (iterate 2 (simp only [push_cast, seval]; rfl)); intro e hm) | ((with_reducible apply O_idxLr hm (row := rowI)); (iterate 2 (simp only [push_cast, seval]; rfl)); (focus ((repeat' (first | rfl | (with_reducible first | apply fT_Tapi_GroupReply | apply fT_Tapi_MessageReply | apply fT_Tapi_Flaw | apply fT_Tapi_Spot | apply fT_Tapi_Reply | apply f_optN | apply f_optS | apply f_some | apply f_tup | apply f_agg | apply f_ptr | apply f_fn | apply dv_slice | apply sv_d | apply f_cons | apply fold_nil | apply fold_cons | apply fold_app | apply f_rowI | apply f_rowY | apply f_rowS | apply f_rowB | apply f_rowL) | (with_reducible apply f_byte; decide))); done)); (simp only [push_cast, seval]; rfl); (intro _; rfl); intro e hm) | ((with_reducible apply O_r); (simp only [push_cast, seval]; rfl); (first | exact trivial | omega)) | ((with_reducible apply O_ldV1r hm); (iterate 2 (simp only [push_cast, seval]; rfl)); (intro _; rfl); intro e hm) | ((with_reducible apply O_ldAVr hm); (iterate 2 (simp only [push_cast, seval]; rfl)); (intro _; rfl); intro e hm) | ((with_reducible apply O_strr hm); (iterate 2 (simp only [push_cast, seval]; rfl)); intro hm) | ((with_reducible apply O_and hm); (simp only [push_cast, seval]; rfl); rfl; intro v hm; rotate_left; intro v g hm) | ((with_reducible apply O_or hm); (simp only [push_cast, seval]; rfl); rfl; intro v hm; rotate_left; intro v g hm) | ((with_reducible apply W_condT); (focus (simp only [push_cast, seval]; done))) | ((with_reducible apply W_condF); (focus (simp only [push_cast, seval]; done))) | ((with_reducible apply O_cF hm); (simp only [push_cast, seval]; rfl); (first | apply spec_strings_Trim _ _ | apply spec_kit_Outside _ _ _ | apply spec_slices_IndexFunc_interchange_api_GroupReply_interchange_api_GroupReply _ _ _ _ h1 | apply h1 _ | apply spec_slices_IndexFunc_interchange_api_MessageReply_interchange_api_MessageReply _ _ _ _ h1 | apply spec_reply_together_1_1 _ _ | apply spec_slices_IndexFunc_int_int _ _ _ _ h1 | apply spec_interchangeref7_within _ _ _ | apply spec_interchangeref2_IsTag _ | apply spec_interchangeref2_IsName _ | apply spec_interchangeref7_together _); (any_goals ((repeat' (first | rfl | (with_reducible first | apply fT_Tapi_GroupReply | apply fT_Tapi_MessageReply | apply fT_Tapi_Flaw | apply fT_Tapi_Spot | apply fT_Tapi_Reply | apply f_optN | apply f_optS | apply f_some | apply f_tup | apply f_agg | apply f_ptr | apply f_fn | apply dv_slice | apply sv_d | apply f_cons | apply fold_nil | apply fold_cons | apply fold_app | apply f_rowI | apply f_rowY | apply f_rowS | apply f_rowB | apply f_rowL) | (with_reducible apply f_byte; decide))); done)); intro x hm) | ((with_reducible apply O_clS hm); (simp only [push_cast, seval]; rfl); (focus (first | exact spec_strings_Trim _ _ | exact spec_kit_Outside _ _ _ | exact spec_slices_IndexFunc_interchange_api_GroupReply_interchange_api_GroupReply _ _ _ _ h1 | exact h1 _ | exact spec_slices_IndexFunc_interchange_api_MessageReply_interchange_api_MessageReply _ _ _ _ h1 | exact spec_reply_together_1_1 _ _ | exact spec_slices_IndexFunc_int_int _ _ _ _ h1 | exact spec_interchangeref7_within _ _ _ | exact spec_interchangeref2_IsTag _ | exact spec_interchangeref2_IsName _ | exact spec_interchangeref7_together _)); (intro _; rfl); intro x hm) | ((with_reducible apply O_cvS hm); (iterate 2 (simp only [push_cast, seval]; rfl)); (focus (first | exact spec_strings_Trim _ _ | exact spec_kit_Outside _ _ _ | exact spec_slices_IndexFunc_interchange_api_GroupReply_interchange_api_GroupReply _ _ _ _ h1 | exact h1 _ | exact spec_slices_IndexFunc_interchange_api_MessageReply_interchange_api_MessageReply _ _ _ _ h1 | exact spec_reply_together_1_1 _ _ | exact spec_slices_IndexFunc_int_int _ _ _ _ h1 | exact spec_interchangeref7_within _ _ _ | exact spec_interchangeref2_IsTag _ | exact spec_interchangeref2_IsName _ | exact spec_interchangeref7_together _)); intro x hm) | ((with_reducible apply O_w); (simp only [push_cast, seval]; rfl); (first | exact trivial | omega)) | ((with_reducible apply O_appL hm (row := rowI)); (iterate 5 (simp only [push_cast, seval]; rfl)); (focus ((repeat' (first | rfl | (with_reducible first | apply fT_Tapi_GroupReply | apply fT_Tapi_MessageReply | apply fT_Tapi_Flaw | apply fT_Tapi_Spot | apply fT_Tapi_Reply | apply f_optN | apply f_optS | apply f_some | apply f_tup | apply f_agg | apply f_ptr | apply f_fn | apply dv_slice | apply sv_d | apply f_cons | apply fold_nil | apply fold_cons | apply fold_app | apply f_rowI | apply f_rowY | apply f_rowS | apply f_rowB | apply f_rowL) | (with_reducible apply f_byte; decide))); done)); (focus ((repeat' (first | rfl | (with_reducible first | apply fT_Tapi_GroupReply | apply fT_Tapi_MessageReply | apply fT_Tapi_Flaw | apply fT_Tapi_Spot | apply fT_Tapi_Reply | apply f_optN | apply f_optS | apply f_some | apply f_tup | apply f_agg | apply f_ptr | apply f_fn | apply dv_slice | apply sv_d | apply f_cons | apply fold_nil | apply fold_cons | apply fold_app | apply f_rowI | apply f_rowY | apply f_rowS | apply f_rowB | apply f_rowL) | (with_reducible apply f_byte; decide))); done)); rfl; decide; (intro _; rfl); intro hm) | ((with_reducible apply O_appV hm); (iterate 4 (simp only [push_cast, seval]; rfl)); (focus ((repeat' (first | rfl | (with_reducible first | apply fT_Tapi_GroupReply | apply fT_Tapi_MessageReply | apply fT_Tapi_Flaw | apply fT_Tapi_Spot | apply fT_Tapi_Reply | apply f_optN | apply f_optS | apply f_some | apply f_tup | apply f_agg | apply f_ptr | apply f_fn | apply dv_slice | apply sv_d | apply f_cons | apply fold_nil | apply fold_cons | apply fold_app | apply f_rowI | apply f_rowY | apply f_rowS | apply f_rowB | apply f_rowL) | (with_reducible apply f_byte; decide))); done)); decide; (intro _; rfl); intro hm) | ((with_reducible apply O_appN hm); (focus (simp only [push_cast, seval]; done)); (iterate 2 (simp only [push_cast, seval]; rfl)); (focus ((repeat' (first | rfl | (with_reducible first | apply fT_Tapi_GroupReply | apply fT_Tapi_MessageReply | apply fT_Tapi_Flaw | apply fT_Tapi_Spot | apply fT_Tapi_Reply | apply f_optN | apply f_optS | apply f_some | apply f_tup | apply f_agg | apply f_ptr | apply f_fn | apply dv_slice | apply sv_d | apply f_cons | apply fold_nil | apply fold_cons | apply fold_app | apply f_rowI | apply f_rowY | apply f_rowS | apply f_rowB | apply f_rowL) | (with_reducible apply f_byte; decide))); done)); decide; (intro _; rfl); intro hm) | ((with_reducible apply O_stVA hm); (iterate 4 (simp only [push_cast, seval]; rfl)); (focus ((repeat' (first | rfl | (with_reducible first | apply fT_Tapi_GroupReply | apply fT_Tapi_MessageReply | apply fT_Tapi_Flaw | apply fT_Tapi_Spot | apply fT_Tapi_Reply | apply f_optN | apply f_optS | apply f_some | apply f_tup | apply f_agg | apply f_ptr | apply f_fn | apply dv_slice | apply sv_d | apply f_cons | apply fold_nil | apply fold_cons | apply fold_app | apply f_rowI | apply f_rowY | apply f_rowS | apply f_rowB | apply f_rowL) | (with_reducible apply f_byte; decide))); done)); decide; (intro _; rfl); intro e hm) | ((with_reducible apply O_stV hm); (iterate 3 (simp only [push_cast, seval]; rfl)); rfl; (intro _; rfl); rfl; (focus (intro a; simp only [push_cast, seval]; rfl)); (focus (intro a; (repeat' (first | rfl | with_reducible apply eT_Tapi_GroupReply | with_reducible apply eT_Tapi_MessageReply | with_reducible apply eT_Tapi_Flaw | with_reducible apply eT_Tapi_Spot | with_reducible apply eT_Tapi_Reply)); done)); intro e hm) | ((with_reducible apply S_condB hm); (simp only [push_cast, seval]; rfl); intro hm; rotate_left; intro hm) | ((with_reducible apply K_endS hm); (focus (simp only [resOf, resL, RV.get, push_cast, seval]; rfl)); (focus ((repeat' (first | rfl | (with_reducible first | apply fT_Tapi_GroupReply | apply fT_Tapi_MessageReply | apply fT_Tapi_Flaw | apply fT_Tapi_Spot | apply fT_Tapi_Reply | apply f_optN | apply f_optS | apply f_some | apply f_tup | apply f_agg | apply f_ptr | apply f_fn | apply dv_slice | apply sv_d | apply f_cons | apply fold_nil | apply fold_cons | apply fold_app | apply f_rowI | apply f_rowY | apply f_rowS | apply f_rowB | apply f_rowL) | (with_reducible apply f_byte; decide))); done))) | ((with_reducible apply K_bool hm); (simp only [push_cast, seval]; rfl)) | ((with_reducible apply K_leave hm); intro r hm) | ((with_reducible apply K_leaveR hm); intro r hm) | ((apply S_loopY (b := 0) (X := sc_interchangeref7_checkFlaws_B1) (x := sc_interchangeref7_checkFlaws_L1) rfl (fun (c : SV) (s : Int) => st [(0, c), (3, .d (.int .i64 s))] []) (c := _) (s0 := _) hm); (focus (first | (dsimp only; done) | (dsimp only; rfl) | rfl)); (with_reducible refine Then.mk ?_ ?_)) | ((apply S_loopY (b := 0) (X := sc_interchangeref7_OfGroup_B1) (x := sc_interchangeref7_OfGroup_L1) rfl (fun (c : SV) (s : (List Int) × Int) => st [(1, c), (3, .vec 3), (4, .d (.int .i64 s.2))] [(3, .vec 3 1 (vrow rowI s.1))]) (c := _) (s0 := (_, _)) hm); (focus (first | (dsimp only; done) | (dsimp only; rfl) | rfl)); (with_reducible refine Then.mk ?_ ?_); apply Imp.trans; (focus (apply imp_vecnil (slot := 3) (id := 3) (e := 3) (sz := 1); (focus (simp only [push_cast, seval]; done))))) | ((apply S_loopY (b := 0) (X := sc_interchangeref7_OfAll_B1) (x := sc_interchangeref7_OfAll_L1) rfl (fun (c : SV) (s : (List Int) × Int) => st [(1, c), (3, .vec 3), (4, .d (.int .i64 s.2))] [(3, .vec 3 1 (vrow rowI s.1))]) (c := _) (s0 := (_, _)) hm); (focus (first | (dsimp only; done) | (dsimp only; rfl) | rfl)); (with_reducible refine Then.mk ?_ ?_); apply Imp.trans; (focus (apply imp_vecnil (slot := 3) (id := 3) (e := 3) (sz := 1); (focus (simp only [push_cast, seval]; done))))) | ((apply K_next (s' := (_, _)) hm); (focus (first | (dsimp only; done) | (dsimp only; rfl) | rfl))) | ((apply K_brk (s' := (_, _)) hm); (focus (first | (dsimp only; done) | (dsimp only; rfl) | rfl))) | ((apply K_next (s' := _) hm); (focus (first | (dsimp only; done) | (dsimp only; rfl) | rfl))) | ((apply K_brk (s' := _) hm); (focus (first | (dsimp only; done) | (dsimp only; rfl) | rfl))) | (((with_reducible apply K_brkN hm); (focus decide); intro r hm)) | (((with_reducible apply K_brkR hm); intro r hm)) | (((with_reducible apply LoopB.of); (focus (first | (dsimp only; done) | (dsimp only; rfl) | rfl)); (focus ((intro _; repeat' (first | with_reducible exact impC_end | with_reducible exact impC_endF | with_reducible refine impC_seq ?_ | with_reducible refine impC_block ?_ | ((with_reducible refine impC_rnd ?_); intro _) | ((with_reducible refine impC_brk ?_); intro _))))); (intro s o hm; first | unfold sc_interchangeref7_checkFlaws_L1 | unfold sc_interchangeref7_OfGroup_L1 | unfold sc_interchangeref7_OfAll_L1); rotate_left; intro s hm)) | (((apply imp_stT; (repeat' (first | with_reducible exact keepT_nil | with_reducible exact keepC_nil | with_reducible apply keepT_cons | with_reducible apply keepC_cons | ((with_reducible apply svle_eq); (focus (first | (simp only [push_cast, seval]; rfl) | rfl)); (focus ((repeat' (first | rfl | (with_reducible first | apply fT_Tapi_GroupReply | apply fT_Tapi_MessageReply | apply fT_Tapi_Flaw | apply fT_Tapi_Spot | apply fT_Tapi_Reply | apply f_optN | apply f_optS | apply f_some | apply f_tup | apply f_agg | apply f_ptr | apply f_fn | apply dv_slice | apply sv_d | apply f_cons | apply fold_nil | apply fold_cons | apply fold_app | apply f_rowI | apply f_rowY | apply f_rowS | apply f_rowB | apply f_rowL) | (with_reducible apply f_byte; decide))); done))) | ((with_reducible apply svle_td); (focus (first | (simp only [push_cast, seval]; rfl) | rfl)); (focus (first | (simp only [push_cast, seval]; rfl) | rfl)); (focus ((repeat' (first | rfl | (with_reducible first | apply fT_Tapi_GroupReply | apply fT_Tapi_MessageReply | apply fT_Tapi_Flaw | apply fT_Tapi_Spot | apply fT_Tapi_Reply | apply f_optN | apply f_optS | apply f_some | apply f_tup | apply f_agg | apply f_ptr | apply f_fn | apply dv_slice | apply sv_d | apply f_cons | apply fold_nil | apply fold_cons | apply fold_app | apply f_rowI | apply f_rowY | apply f_rowS | apply f_rowB | apply f_rowL) | (with_reducible apply f_byte; decide))); done))) | ((with_reducible apply chle_eq); (focus (first | (simp only [push_cast, seval]; rfl) | rfl)); (first | with_reducible exact chle_rfl rfl | with_reducible exact chle_map0 | with_reducible apply chle_vec | with_reducible apply chle_box)) | (with_reducible first | apply cT_Tapi_GroupReply | apply cT_Tapi_MessageReply | apply cT_Tapi_Flaw | apply cT_Tapi_Spot | apply cT_Tapi_Reply | apply r_shS | apply r_shI | apply r_rflO | apply r_oneO | apply r_appO | apply r_nilO | apply c_ownN | apply c_ownL | apply vc_rfl | apply vc_nil | apply vc_cons | apply r_rfl | apply r_rows | apply r_nil | apply r_app | apply r_cons | apply c_rowI | apply c_rowY | apply c_rowS | apply c_rowB | apply c_rowL))); done)))))
noncomputable def m_kit_IsRef (x0 : List UInt8) : Option (Bool) := (sims_G5_1_0.1 x0).1
theorem spec_kit_IsRef (x0 : List UInt8) : ∀ r, m_kit_IsRef x0 = some r → PureSpec Tryd.prog 44 [.str x0] (.bool r) := (sims_G5_1_0.1 x0).2
noncomputable def m_reply_isVerdict (x0 : Int) : Option (Bool) := (sims_G5_1_0.2.1 x0).1
theorem spec_reply_isVerdict (x0 : Int) : ∀ r, m_reply_isVerdict x0 = some r → PureSpec Tryd.prog 45 [.int .i64 x0] (.bool r) := (sims_G5_1_0.2.1 x0).2
noncomputable def m_slices_ContainsFunc_interchange_api_GroupReply_interchange_api_GroupReply (x0 : List Tapi_GroupReply) (f1 : FuncId) (c1 : List DV) (p1 : Tapi_GroupReply → Option (Bool)) (h1 : ∀ a0 r, p1 a0 = some r → PureSpec Tryd.prog f1 ([.agg (rTapi_GroupReply a0)] ++ c1) (.bool r)) : Option (Bool) := (sims_G5_1_0.2.2.1 x0 f1 c1 p1 h1).1
theorem spec_slices_ContainsFunc_interchange_api_GroupReply_interchange_api_GroupReply (x0 : List Tapi_GroupReply) (f1 : FuncId) (c1 : List DV) (p1 : Tapi_GroupReply → Option (Bool)) (h1 : ∀ a0 r, p1 a0 = some r → PureSpec Tryd.prog f1 ([.agg (rTapi_GroupReply a0)] ++ c1) (.bool r)) : ∀ r, m_slices_ContainsFunc_interchange_api_GroupReply_interchange_api_GroupReply x0 f1 c1 p1 h1 = some r → PureSpec Tryd.prog 88 [.slice (List.map rTapi_GroupReply x0), .fn f1 c1] (.bool r) := (sims_G5_1_0.2.2.1 x0 f1 c1 p1 h1).2
noncomputable def m_slices_ContainsFunc_interchange_api_MessageReply_interchange_api_MessageReply (x0 : List Tapi_MessageReply) (f1 : FuncId) (c1 : List DV) (p1 : Tapi_MessageReply → Option (Bool)) (h1 : ∀ a0 r, p1 a0 = some r → PureSpec Tryd.prog f1 ([.agg (rTapi_MessageReply a0)] ++ c1) (.bool r)) : Option (Bool) := (sims_G5_1_0.2.2.2.1 x0 f1 c1 p1 h1).1
theorem spec_slices_ContainsFunc_interchange_api_MessageReply_interchange_api_MessageReply (x0 : List Tapi_MessageReply) (f1 : FuncId) (c1 : List DV) (p1 : Tapi_MessageReply → Option (Bool)) (h1 : ∀ a0 r, p1 a0 = some r → PureSpec Tryd.prog f1 ([.agg (rTapi_MessageReply a0)] ++ c1) (.bool r)) : ∀ r, m_slices_ContainsFunc_interchange_api_MessageReply_interchange_api_MessageReply x0 f1 c1 p1 h1 = some r → PureSpec Tryd.prog 135 [.slice (List.map rTapi_MessageReply x0), .fn f1 c1] (.bool r) := (sims_G5_1_0.2.2.2.1 x0 f1 c1 p1 h1).2
noncomputable def m_reply_isFlaw (x0 : Int) : Option (Bool) := (sims_G5_1_0.2.2.2.2.1 x0).1
theorem spec_reply_isFlaw (x0 : Int) : ∀ r, m_reply_isFlaw x0 = some r → PureSpec Tryd.prog 193 [.int .i64 x0] (.bool r) := (sims_G5_1_0.2.2.2.2.1 x0).2
noncomputable def m_kit_IsName (x0 : List UInt8) : Option (Bool) := (sims_G5_1_0.2.2.2.2.2.1 x0).1
theorem spec_kit_IsName (x0 : List UInt8) : ∀ r, m_kit_IsName x0 = some r → PureSpec Tryd.prog 67 [.str x0] (.bool r) := (sims_G5_1_0.2.2.2.2.2.1 x0).2
noncomputable def m_reply_together_1 (x0 : Int) : Option (Int) := (sims_G5_1_0.2.2.2.2.2.2.1 x0).1
theorem spec_reply_together_1 (x0 : Int) : ∀ r, m_reply_together_1 x0 = some r → PureSpec Tryd.prog 138 [.int .i64 x0] (.fn 139 [.ptr (rowI r)]) := (sims_G5_1_0.2.2.2.2.2.2.1 x0).2
noncomputable def m_slices_ContainsFunc_int_int (x0 : List Int) (f1 : FuncId) (c1 : List DV) (p1 : Int → Option (Bool)) (h1 : ∀ a0 r, p1 a0 = some r → PureSpec Tryd.prog f1 ([.int .i64 a0] ++ c1) (.bool r)) : Option (Bool) := (sims_G5_1_0.2.2.2.2.2.2.2.1 x0 f1 c1 p1 h1).1
theorem spec_slices_ContainsFunc_int_int (x0 : List Int) (f1 : FuncId) (c1 : List DV) (p1 : Int → Option (Bool)) (h1 : ∀ a0 r, p1 a0 = some r → PureSpec Tryd.prog f1 ([.int .i64 a0] ++ c1) (.bool r)) : ∀ r, m_slices_ContainsFunc_int_int x0 f1 c1 p1 h1 = some r → PureSpec Tryd.prog 140 [.slice (List.map rowI x0), .fn f1 c1] (.bool r) := (sims_G5_1_0.2.2.2.2.2.2.2.1 x0 f1 c1 p1 h1).2
noncomputable def m_interchangeref7_isVerdict (x0 : Int) : Option (Bool) := (sims_G5_1_0.2.2.2.2.2.2.2.2.1 x0).1
theorem spec_interchangeref7_isVerdict (x0 : Int) : ∀ r, m_interchangeref7_isVerdict x0 = some r → PureSpec Tryd.prog 49 [.int .i64 x0] (.bool r) := (sims_G5_1_0.2.2.2.2.2.2.2.2.1 x0).2
noncomputable def m_interchangeref7_checkFlaws (x0 : List Tapi_Flaw) : Option (Int) := (sims_G5_1_0.2.2.2.2.2.2.2.2.2.1 x0).1
theorem spec_interchangeref7_checkFlaws (x0 : List Tapi_Flaw) : ∀ r, m_interchangeref7_checkFlaws x0 = some r → PureSpec Tryd.prog 141 [.slice (List.map rTapi_Flaw x0)] (.int .i64 r) := (sims_G5_1_0.2.2.2.2.2.2.2.2.2.1 x0).2
noncomputable def m_interchangeref7_OfGroup (x0 : Tapi_GroupReply) : Option (Int) := (sims_G5_1_0.2.2.2.2.2.2.2.2.2.2.1 x0).1
theorem spec_interchangeref7_OfGroup (x0 : Tapi_GroupReply) : ∀ r, m_interchangeref7_OfGroup x0 = some r → PureSpec Tryd.prog 94 [.agg (rTapi_GroupReply x0)] (.int .i64 r) := (sims_G5_1_0.2.2.2.2.2.2.2.2.2.2.1 x0).2
noncomputable def m_interchangeref7_OfAll (x0 : Tapi_Reply) : Option (Int) := (sims_G5_1_0.2.2.2.2.2.2.2.2.2.2.2 x0).1
theorem spec_interchangeref7_OfAll (x0 : Tapi_Reply) : ∀ r, m_interchangeref7_OfAll x0 = some r → PureSpec Tryd.prog 51 [.agg (rTapi_Reply x0)] (.int .i64 r) := (sims_G5_1_0.2.2.2.2.2.2.2.2.2.2.2 x0).2

def sc_interchangeref2_SameSegment_L1 : SC :=
  (.seq (.seq (.reg [.r 47 (.mv (.t 8)),
     .r 48 (.mv (.t 6)),
     .r 49 (.len (.t 48)),
     .r 50 (.bin .lss (.t 47) (.t 49))])
  (.cond (.t 50)
    .skip
    (.exit 2)))
  (.seq (.block 3 (.seq (.regD [.r 53 (.mv (.t 6)),
       .r 54 (.mv (.t 8)),
       .r 55 (.idx 1 (.t 53) (.t 54)),
       .r 56 (.ld1 (.t 55)),
       .r 57 (.mv (.t 7)),
       .r 58 (.mv (.t 8)),
       .r 59 (.idx 1 (.t 57) (.t 58)),
       .r 60 (.ld1 (.t 59)),
       .c 61 (.f 96) [.t 56, .t 60],
       .r 62 (.not (.t 61))])
    (.cond (.t 62)
      (.seq (.reg [.r 4 (.mv (.c (.d (.bool false))))])
      .ret)
      .skip)))
  (.reg [.r 51 (.mv (.t 8)),
     .r 52 (.bin .add (.t 51) (.c (.d (.int .i64 1)))),
     .r 8 (.mv (.t 52))])))
def sc_interchangeref2_SameSegment_B1 : SC := .block 2 (.loop sc_interchangeref2_SameSegment_L1)
def sc_interchangeref2_SameSegment_L2 : SC :=
  (.seq (.seq (.reg [.r 23 (.mv (.t 5)),
     .r 24 (.fld 1 (.t 2)),
     .o 25 (.ld1 (.t 24)),
     .r 26 (.len (.t 25)),
     .r 27 (.bin .lss (.t 23) (.t 26))])
  (.cond (.t 27)
    .skip
    (.exit 0)))
  (.seq (.block 1 (.seq (.regD [.r 30 (.fld 1 (.t 2)),
       .r 31 (.ld1 (.t 30)),
       .r 32 (.mv (.t 5)),
       .r 33 (.idx 1 (.t 31) (.t 32)),
       .r 34 (.fld 0 (.t 33)),
       .r 35 (.ld1 (.t 34)),
       .r 36 (.fld 1 (.t 3)),
       .r 37 (.ld1 (.t 36)),
       .r 38 (.mv (.t 5)),
       .r 39 (.idx 1 (.t 37) (.t 38)),
       .r 40 (.fld 0 (.t 39)),
       .r 41 (.ld1 (.t 40)),
       .r 6 (.mv (.t 35)),
       .r 7 (.mv (.t 41))])
    (.seq (.seq (.reg [.r 42 (.mv (.t 6)),
       .r 43 (.len (.t 42)),
       .r 44 (.mv (.t 7)),
       .r 45 (.len (.t 44)),
       .r 46 (.bin .neq (.t 43) (.t 45))])
    (.cond (.t 46)
      (.seq (.reg [.r 4 (.mv (.c (.d (.bool false))))])
      .ret)
      .skip))
    (.seq (.reg [.r 8 (.mv (.c (.d (.int .i64 0))))])
    sc_interchangeref2_SameSegment_B1))))
  (.reg [.r 28 (.mv (.t 5)),
     .r 29 (.bin .add (.t 28) (.c (.d (.int .i64 1)))),
     .r 5 (.mv (.t 29))])))
def sc_interchangeref2_SameSegment_B2 : SC := .block 0 (.loop sc_interchangeref2_SameSegment_L2)
/-- interchange/interchangeref2.SameSegment -/
def sc_interchangeref2_SameSegment : SC :=
  (.seq (.reg [.r 2 (.boxI (.t 0)),
     .r 3 (.boxI (.t 1)),
     .r 4 (.mv (.c (.d (.bool false))))])
  (.seq (.seq (.reg (.r 9 (.fld 0 (.t 2)) :: .o 10 (.ld1 (.t 9)) :: .r 11 (.fld 0 (.t 3)) :: .o 12 (.ld1 (.t 11)) :: .r 13 (.bin .neq (.t 10) (.t 12)) :: .r 14 (.mv (.t 13)) :: gapp [15, 16, 17, 18, 19, 20, 21] 14 false (.r 15 (.fld 1 (.t 2)) :: .r 16 (.ld1 (.t 15)) :: .r 17 (.len (.t 16)) :: .r 18 (.fld 1 (.t 3)) :: .r 19 (.ld1 (.t 18)) :: .r 20 (.len (.t 19)) :: .r 21 (.bin .neq (.t 17) (.t 20)) :: []) (.r 22 (.pick (.t 14) (.c (.d (.bool true))) (.t 21)) :: [])))
  (.cond (.t 22)
    (.seq (.reg [.r 4 (.mv (.c (.d (.bool false))))])
    .ret)
    .skip))
  (.seq (.seq (.reg [.r 5 (.mv (.c (.d (.int .i64 0))))])
  sc_interchangeref2_SameSegment_B2)
  (.seq (.reg [.r 4 (.mv (.c (.d (.bool true))))])
  .ret))))
theorem fit_interchangeref2_SameSegment : fits Tryd.prog 52 Tryd.f52 sc_interchangeref2_SameSegment [.t 4] 2 = true := by kernel_rfl

set_option maxRecDepth 100000 in
set_option maxHeartbeats 40000000 in
noncomputable def sims_G5_1_1 : (∀ (x0 : Tapi_Segment) (x1 : Tapi_Segment), {m : Option (Bool) // ∀ r, m = some r → PureSpec Tryd.prog 52 [.agg (rTapi_Segment x0), .agg (rTapi_Segment x1)] (.bool r)}) := by
  (intro x0 x1; apply Subtype.mk; intro r hm; apply pure_walk Tryd.func52 fit_interchangeref2_SameSegment; unfold sc_interchangeref2_SameSegment)
  repeat' (first | with_reducible refine W_seq ?_ | with_reducible refine W_reg ?_ | with_reducible refine W_regD ?_ | with_reducible refine W_block ?_ | with_reducible refine W_skip ?_ | with_reducible refine W_ret ?_ | with_reducible refine W_exit ?_ | with_reducible refine O_nil ?_ | with_reducible refine K_seq ?_ | with_reducible refine K_seqE ?_ | with_reducible refine K_seqR ?_ | with_reducible refine K_block ?_ | with_reducible refine K_blockR ?_ | with_reducible refine K_blockE ?_ | ((with_reducible apply K_blockN); decide) | with_reducible refine O_o2r ?_ | ((with_reducible apply O_idxr hm); (iterate 2 (simp only [push_cast, seval]; rfl)); (intro _; rfl); intro e hm) | ((with_reducible apply O_idxVr hm); (iterate 3 (simp only [push_cast, seval]; rfl)); intro e hm) | ((with_reducible apply O_r); (simp only [push_cast, seval]; rfl); (first | exact trivial | omega)) | ((with_reducible apply O_ldV1r hm); (iterate 2 (simp only [push_cast, seval]; rfl)); (intro _; rfl); intro e hm) | ((with_reducible apply O_strr hm); (iterate 2 (simp only [push_cast, seval]; rfl)); intro hm) | ((with_reducible apply O_or hm); (simp only [push_cast, seval]; rfl); rfl; intro v hm; rotate_left; intro v g hm) | ((with_reducible apply W_condT); (focus (simp only [push_cast, seval]; done))) | ((with_reducible apply W_condF); (focus (simp only [push_cast, seval]; done))) | ((with_reducible apply O_cF hm); (simp only [push_cast, seval]; rfl); (first | apply spec_interchangeref2_SameTexts _ _); (any_goals ((repeat' (first | rfl | (with_reducible first | apply fT_Tapi_Element | apply fT_Tapi_Segment | apply f_optN | apply f_optS | apply f_some | apply f_tup | apply f_agg | apply f_ptr | apply f_fn | apply dv_slice | apply sv_d | apply f_cons | apply fold_nil | apply fold_cons | apply fold_app | apply f_rowI | apply f_rowY | apply f_rowS | apply f_rowB | apply f_rowL) | (with_reducible apply f_byte; decide))); done)); intro x hm) | ((with_reducible apply S_condB hm); (simp only [push_cast, seval]; rfl); intro hm; rotate_left; intro hm) | ((with_reducible apply K_endS hm); (focus (simp only [resOf, resL, RV.get, push_cast, seval]; rfl)); (focus ((repeat' (first | rfl | (with_reducible first | apply fT_Tapi_Element | apply fT_Tapi_Segment | apply f_optN | apply f_optS | apply f_some | apply f_tup | apply f_agg | apply f_ptr | apply f_fn | apply dv_slice | apply sv_d | apply f_cons | apply fold_nil | apply fold_cons | apply fold_app | apply f_rowI | apply f_rowY | apply f_rowS | apply f_rowB | apply f_rowL) | (with_reducible apply f_byte; decide))); done))) | ((with_reducible apply K_bool hm); (simp only [push_cast, seval]; rfl)) | ((with_reducible apply K_leave hm); intro r hm) | ((with_reducible apply K_leaveR hm); intro r hm) | ((apply S_loopY (b := 2) (X := sc_interchangeref2_SameSegment_B1) (x := sc_interchangeref2_SameSegment_L1) rfl (fun (c : SV × SV × SV × SV × SV) (s : Int) => st [(2, c.1), (3, c.2.1), (5, c.2.2.1), (6, c.2.2.2.1), (7, c.2.2.2.2), (8, .d (.int .i64 s))] []) (c := (_, _, _, _, _)) (s0 := _) hm); (focus (first | (dsimp only; done) | (dsimp only; rfl) | rfl)); (with_reducible refine Then.mk ?_ ?_)) | ((apply S_loopY (b := 0) (X := sc_interchangeref2_SameSegment_B2) (x := sc_interchangeref2_SameSegment_L2) rfl (fun (c : SV × SV) (s : Int) => st [(2, c.1), (3, c.2), (5, .d (.int .i64 s))] []) (c := (_, _)) (s0 := _) hm); (focus (first | (dsimp only; done) | (dsimp only; rfl) | rfl)); (with_reducible refine Then.mk ?_ ?_)) | ((apply K_next (s' := _) hm); (focus (first | (dsimp only; done) | (dsimp only; rfl) | rfl))) | ((apply K_brk (s' := _) hm); (focus (first | (dsimp only; done) | (dsimp only; rfl) | rfl))) | (((with_reducible apply K_brkN hm); (focus decide); intro r hm)) | (((with_reducible apply K_brkR hm); intro r hm)) | (((with_reducible apply LoopB.of); (focus (first | (dsimp only; done) | (dsimp only; rfl) | rfl)); (focus ((intro _; repeat' (first | with_reducible exact impC_end | with_reducible exact impC_endF | with_reducible refine impC_seq ?_ | with_reducible refine impC_block ?_ | ((with_reducible refine impC_rnd ?_); intro _) | ((with_reducible refine impC_brk ?_); intro _))))); (intro s o hm; first | unfold sc_interchangeref2_SameSegment_L1 | unfold sc_interchangeref2_SameSegment_L2); rotate_left; intro s hm)) | (((apply imp_stT; (repeat' (first | with_reducible exact keepT_nil | with_reducible exact keepC_nil | with_reducible apply keepT_cons | with_reducible apply keepC_cons | ((with_reducible apply svle_eq); (focus (first | (simp only [push_cast, seval]; rfl) | rfl)); (focus ((repeat' (first | rfl | (with_reducible first | apply fT_Tapi_Element | apply fT_Tapi_Segment | apply f_optN | apply f_optS | apply f_some | apply f_tup | apply f_agg | apply f_ptr | apply f_fn | apply dv_slice | apply sv_d | apply f_cons | apply fold_nil | apply fold_cons | apply fold_app | apply f_rowI | apply f_rowY | apply f_rowS | apply f_rowB | apply f_rowL) | (with_reducible apply f_byte; decide))); done))) | ((with_reducible apply svle_td); (focus (first | (simp only [push_cast, seval]; rfl) | rfl)); (focus (first | (simp only [push_cast, seval]; rfl) | rfl)); (focus ((repeat' (first | rfl | (with_reducible first | apply fT_Tapi_Element | apply fT_Tapi_Segment | apply f_optN | apply f_optS | apply f_some | apply f_tup | apply f_agg | apply f_ptr | apply f_fn | apply dv_slice | apply sv_d | apply f_cons | apply fold_nil | apply fold_cons | apply fold_app | apply f_rowI | apply f_rowY | apply f_rowS | apply f_rowB | apply f_rowL) | (with_reducible apply f_byte; decide))); done))) | ((with_reducible apply chle_eq); (focus (first | (simp only [push_cast, seval]; rfl) | rfl)); (first | with_reducible exact chle_rfl rfl | with_reducible exact chle_map0 | with_reducible apply chle_vec | with_reducible apply chle_box)) | (with_reducible first | apply cT_Tapi_Element | apply cT_Tapi_Segment | apply r_shS | apply r_shI | apply r_rflO | apply r_oneO | apply r_appO | apply r_nilO | apply c_ownN | apply c_ownL | apply vc_rfl | apply vc_nil | apply vc_cons | apply r_rfl | apply r_rows | apply r_nil | apply r_app | apply r_cons | apply c_rowI | apply c_rowY | apply c_rowS | apply c_rowB | apply c_rowL))); done))))
noncomputable def m_interchangeref2_SameSegment (x0 : Tapi_Segment) (x1 : Tapi_Segment) : Option (Bool) := (sims_G5_1_1 x0 x1).1
theorem spec_interchangeref2_SameSegment (x0 : Tapi_Segment) (x1 : Tapi_Segment) : ∀ r, m_interchangeref2_SameSegment x0 x1 = some r → PureSpec Tryd.prog 52 [.agg (rTapi_Segment x0), .agg (rTapi_Segment x1)] (.bool r) := (sims_G5_1_1 x0 x1).2

def sc_reply_flawsFault_L1 : SC :=
  (.seq (.reg [.r 11 (.bin .lss (.t 10) (.t 9))])
  (.seq (.cond (.t 11)
    .skip
    (.exit 0))
  (.seq (.block 1 (.seq (.reg [.r 12 (.mv (.t 10)),
       .r 13 (.idx 6 (.t 8) (.t 10)),
       .o 14 (.ldA 6 (.t 13)),
       .w 4 (.boxM (.c (.agg [.d (.int .i64 0), .d (.int .i64 0), .d (.int .i64 0), .d (.int .i64 0), .d (.int .i64 0), .d (.str [])]))),
       .r 3 (.mv (.t 12)),
       .w 0 (.st 6 (.t 4) (.t 14))])
    (.block 2 (.seq (.reg [.r 16 (.fld 0 (.t 4)),
         .o 17 (.ld1 (.t 16)),
         .c 18 (.f 193) [.t 17],
         .r 19 (.not (.t 18)),
         .r 15 (.mv (.t 19))])
      (.cond (.t 15)
        (.seq (.reg [.r 2 (.mv (.c (.d (.int .i64 4))))])
        .ret)
        (.seq (.reg (.r 21 (.fld 1 (.t 4)) :: .o 22 (.ld1 (.t 21)) :: .c 23 (.f 55) [.t 22, .c (.d (.int .i64 0)), .c (.d (.int .i64 2000))] :: .r 24 (.mv (.t 23)) :: gapp [25, 26, 27, 28] 24 false (.r 25 (.fld 2 (.t 4)) :: .r 26 (.fld 0 (.t 25)) :: .r 27 (.ld1 (.t 26)) :: .c 28 (.f 55) [.t 27, .c (.d (.int .i64 0)), .c (.d (.int .i64 51))] :: []) (.r 29 (.pick (.t 24) (.c (.d (.bool true))) (.t 28)) :: .r 30 (.mv (.t 29)) :: gapp [31, 32, 33, 34] 30 false (.r 31 (.fld 2 (.t 4)) :: .r 32 (.fld 1 (.t 31)) :: .r 33 (.ld1 (.t 32)) :: .c 34 (.f 55) [.t 33, .c (.d (.int .i64 0)), .c (.d (.int .i64 21))] :: []) (.r 35 (.pick (.t 30) (.c (.d (.bool true))) (.t 34)) :: .r 36 (.mv (.t 35)) :: gapp [37, 38, 39, 40] 36 false (.r 37 (.fld 2 (.t 4)) :: .r 38 (.fld 2 (.t 37)) :: .r 39 (.ld1 (.t 38)) :: .c 40 (.f 55) [.t 39, .c (.d (.int .i64 0)), .c (.d (.int .i64 21))] :: []) (.r 41 (.pick (.t 36) (.c (.d (.bool true))) (.t 40)) :: .r 20 (.mv (.t 41)) :: [])))))
        (.cond (.t 20)
          (.seq (.reg [.r 2 (.mv (.c (.d (.int .i64 1))))])
          .ret)
          (.seq (.reg (.r 43 (.fld 5 (.t 4)) :: .o 44 (.ld1 (.t 43)) :: .r 45 (.bin .neq (.t 44) (.c (.d (.str [])))) :: .r 46 (.mv (.t 45)) :: gapp [47, 48, 49, 50] 46 true (.r 47 (.fld 5 (.t 4)) :: .r 48 (.ld1 (.t 47)) :: .c 49 (.f 176) [.t 48] :: .r 50 (.not (.t 49)) :: []) (.r 51 (.pick (.t 46) (.t 50) (.c (.d (.bool false)))) :: .r 52 (.mv (.t 51)) :: gapp [53, 54, 55, 56] 52 true (.r 53 (.fld 5 (.t 4)) :: .r 54 (.ld1 (.t 53)) :: .c 55 (.f 67) [.t 54] :: .r 56 (.not (.t 55)) :: []) (.r 57 (.pick (.t 52) (.t 56) (.c (.d (.bool false)))) :: .r 42 (.mv (.t 57)) :: []))))
          (.cond (.t 42)
            (.seq (.reg [.r 2 (.mv (.c (.d (.int .i64 3))))])
            .ret)
            (.seq (.regD (.r 59 (.mv (.t 3)) :: .r 60 (.bin .gtr (.t 59) (.c (.d (.int .i64 0)))) :: .r 61 (.mv (.t 60)) :: gapp [62, 63, 64, 65, 66, 67, 68, 69, 70] 61 true (.r 62 (.fld 1 (.t 4)) :: .r 63 (.ld1 (.t 62)) :: .r 64 (.mv (.t 0)) :: .r 65 (.mv (.t 3)) :: .r 66 (.bin .sub (.t 65) (.c (.d (.int .i64 1)))) :: .r 67 (.idx 6 (.t 64) (.t 66)) :: .r 68 (.fld 1 (.t 67)) :: .r 69 (.ld1 (.t 68)) :: .r 70 (.bin .lss (.t 63) (.t 69)) :: []) (.r 71 (.pick (.t 61) (.t 70) (.c (.d (.bool false)))) :: .r 58 (.mv (.t 71)) :: [])))
            (.cond (.t 58)
              (.seq (.reg [.r 2 (.mv (.c (.d (.int .i64 8))))])
              .ret)
              .skip)))))))))))
  (.reg [.r 72 (.bin .add (.t 10) (.c (.d (.int .i64 1)))),
     .r 10 (.mv (.t 72))]))))
def sc_reply_flawsFault_B1 : SC := .block 0 (.loop sc_reply_flawsFault_L1)
/-- interchange/reply.flawsFault -/
def sc_reply_flawsFault : SC :=
  (.seq (.reg [.r 2 (.mv (.c (.d (.int .i64 0))))])
  (.seq (.seq (.reg [.r 5 (.mv (.t 0)),
     .r 6 (.len (.t 5)),
     .r 7 (.bin .gtr (.t 6) (.c (.d (.int .i64 500))))])
  (.cond (.t 7)
    (.seq (.reg [.r 2 (.mv (.c (.d (.int .i64 2))))])
    .ret)
    .skip))
  (.seq (.seq (.reg [.r 8 (.mv (.t 0)),
     .r 9 (.len (.t 8)),
     .r 10 (.mv (.c (.d (.int .i64 0))))])
  sc_reply_flawsFault_B1)
  (.seq (.reg [.r 2 (.mv (.c (.d (.int .i64 0))))])
  .ret))))
theorem fit_reply_flawsFault : fits Tryd.prog 137 Tryd.f137 sc_reply_flawsFault [.t 2] 1 = true := by kernel_rfl

/-- interchange/reply.together -/
def sc_reply_together : SC :=
  (.seq (.reg [.r 2 (.mv (.c (.d (.int .i64 0))))])
  (.seq (.reg [.r 3 (.mv (.f 138))])
  (.seq (.block 0 (.seq (.reg [.r 5 (.mv (.t 0)),
       .r 6 (.mv (.t 3)),
       .c 7 (.t 6) [.c (.d (.int .i64 1))],
       .c 8 (.f 140) [.t 5, .t 7],
       .r 9 (.not (.t 8)),
       .r 4 (.mv (.t 9))])
    (.cond (.t 4)
      (.seq (.reg [.r 2 (.mv (.c (.d (.int .i64 1))))])
      .ret)
      (.seq (.reg [.r 11 (.mv (.t 0)),
         .r 12 (.mv (.t 3)),
         .c 13 (.t 12) [.c (.d (.int .i64 3))],
         .c 14 (.f 140) [.t 11, .t 13],
         .r 15 (.not (.t 14)),
         .r 10 (.mv (.t 15))])
      (.cond (.t 10)
        (.seq (.reg [.r 2 (.mv (.c (.d (.int .i64 3))))])
        .ret)
        .skip)))))
  (.seq (.reg [.r 2 (.mv (.c (.d (.int .i64 2))))])
  .ret))))
theorem fit_reply_together : fits Tryd.prog 92 Tryd.f92 sc_reply_together [.t 2] 1 = true := by kernel_rfl

def sc_interchangeref7_checkMessage_L1 : SC :=
  (.seq (.seq (.reg [.r 21 (.mv (.t 6)),
     .r 22 (.mv (.t 1)),
     .r 23 (.bin .lss (.t 21) (.t 22))])
  (.cond (.t 23)
    .skip
    (.exit 0)))
  (.seq (.block 1 (.seq (.regD [.r 26 (.mv (.t 0)),
       .r 27 (.mv (.t 6)),
       .r 28 (.idx 5 (.t 26) (.t 27)),
       .r 29 (.fld 0 (.t 28)),
       .r 30 (.ld1 (.t 29)),
       .r 31 (.fld 0 (.t 5)),
       .r 32 (.ld1 (.t 31)),
       .r 33 (.bin .eql (.t 30) (.t 32))])
    (.cond (.t 33)
      (.seq (.reg [.r 4 (.mv (.c (.d (.int .i64 7))))])
      .ret)
      .skip)))
  (.reg [.r 24 (.mv (.t 6)),
     .r 25 (.bin .add (.t 24) (.c (.d (.int .i64 1)))),
     .r 6 (.mv (.t 25))])))
def sc_interchangeref7_checkMessage_B1 : SC := .block 0 (.loop sc_interchangeref7_checkMessage_L1)
def sc_interchangeref7_checkMessage_L2 : SC :=
  (.seq (.seq (.reg [.r 63 (.mv (.t 8)),
     .r 64 (.fld 4 (.t 5)),
     .o 65 (.ld1 (.t 64)),
     .r 66 (.len (.t 65)),
     .r 67 (.bin .lss (.t 63) (.t 66))])
  (.cond (.t 67)
    .skip
    (.exit 2)))
  (.seq (.block 3 (.seq (.seq (.reg [.r 70 (.fld 4 (.t 5)),
       .o 71 (.ld1 (.t 70)),
       .r 72 (.mv (.t 8)),
       .r 73 (.idx 1 (.t 71) (.t 72)),
       .o 74 (.ld1 (.t 73)),
       .c 75 (.f 142) [.t 74],
       .r 76 (.not (.t 75))])
    (.cond (.t 76)
      (.seq (.reg [.r 4 (.mv (.c (.d (.int .i64 5))))])
      .ret)
      .skip))
    (.seq (.regD (.r 77 (.mv (.t 8)) :: .r 78 (.bin .gtr (.t 77) (.c (.d (.int .i64 0)))) :: .r 79 (.mv (.t 78)) :: gapp [80, 81, 82, 83, 84, 85, 86, 87, 88, 89, 90, 91] 79 true (.r 80 (.fld 4 (.t 5)) :: .r 81 (.ld1 (.t 80)) :: .r 82 (.mv (.t 8)) :: .r 83 (.idx 1 (.t 81) (.t 82)) :: .r 84 (.ld1 (.t 83)) :: .r 85 (.fld 4 (.t 5)) :: .r 86 (.ld1 (.t 85)) :: .r 87 (.mv (.t 8)) :: .r 88 (.bin .sub (.t 87) (.c (.d (.int .i64 1)))) :: .r 89 (.idx 1 (.t 86) (.t 88)) :: .r 90 (.ld1 (.t 89)) :: .r 91 (.bin .leq (.t 84) (.t 90)) :: []) (.r 92 (.pick (.t 79) (.t 91) (.c (.d (.bool false)))) :: [])))
    (.cond (.t 92)
      (.seq (.reg [.r 4 (.mv (.c (.d (.int .i64 8))))])
      .ret)
      .skip))))
  (.reg [.r 68 (.mv (.t 8)),
     .r 69 (.bin .add (.t 68) (.c (.d (.int .i64 1)))),
     .r 8 (.mv (.t 69))])))
def sc_interchangeref7_checkMessage_B2 : SC := .block 2 (.loop sc_interchangeref7_checkMessage_L2)
/-- interchange/interchangeref7.checkMessage -/
def sc_interchangeref7_checkMessage : SC :=
  (.seq (.reg [.r 4 (.mv (.c (.d (.int .i64 0))))])
  (.seq (.reg [.r 9 (.mv (.t 0)),
     .r 10 (.mv (.t 1)),
     .r 11 (.idx 5 (.t 9) (.t 10)),
     .o 12 (.ldA 5 (.t 11)),
     .w 5 (.boxM (.c (.agg [.d (.str []), .d (.int .i64 0), .d (.bool false), .nils, .nils]))),
     .w 0 (.st 5 (.t 5) (.t 12))])
  (.seq (.seq (.reg [.r 13 (.fld 0 (.t 5)),
     .o 14 (.ld1 (.t 13)),
     .c 15 (.f 48) [.t 14],
     .r 16 (.not (.t 15))])
  (.cond (.t 16)
    (.seq (.reg [.r 4 (.mv (.c (.d (.int .i64 3))))])
    .ret)
    .skip))
  (.seq (.seq (.reg [.r 17 (.fld 1 (.t 5)),
     .o 18 (.ld1 (.t 17)),
     .c 19 (.f 49) [.t 18],
     .r 20 (.not (.t 19))])
  (.cond (.t 20)
    (.seq (.reg [.r 4 (.mv (.c (.d (.int .i64 4))))])
    .ret)
    .skip))
  (.seq (.seq (.reg [.r 6 (.mv (.c (.d (.int .i64 0))))])
  sc_interchangeref7_checkMessage_B1)
  (.seq (.seq (.reg (.r 34 (.fld 2 (.t 5)) :: .o 35 (.ld1 (.t 34)) :: .r 36 (.mv (.t 35)) :: gapp [37, 38, 39, 40, 41, 42, 43, 44, 45, 46, 47, 48, 49, 50, 51] 36 true (.r 37 (.fld 1 (.t 5)) :: .r 38 (.ld1 (.t 37)) :: .r 39 (.bin .neq (.t 38) (.c (.d (.int .i64 3)))) :: .r 40 (.mv (.t 39)) :: gapp [41, 42, 43, 44] 40 false (.r 41 (.fld 3 (.t 5)) :: .r 42 (.ld1 (.t 41)) :: .r 43 (.len (.t 42)) :: .r 44 (.bin .gtr (.t 43) (.c (.d (.int .i64 0)))) :: []) (.r 45 (.pick (.t 40) (.c (.d (.bool true))) (.t 44)) :: .r 46 (.mv (.t 45)) :: gapp [47, 48, 49, 50] 46 false (.r 47 (.fld 4 (.t 5)) :: .r 48 (.ld1 (.t 47)) :: .r 49 (.len (.t 48)) :: .r 50 (.bin .gtr (.t 49) (.c (.d (.int .i64 0)))) :: []) (.r 51 (.pick (.t 46) (.c (.d (.bool true))) (.t 50)) :: []))) (.r 52 (.pick (.t 36) (.t 51) (.c (.d (.bool false)))) :: [])))
  (.cond (.t 52)
    (.seq (.reg [.r 4 (.mv (.c (.d (.int .i64 12))))])
    .ret)
    .skip))
  (.seq (.seq (.reg [.r 53 (.fld 3 (.t 5)),
     .o 54 (.ld1 (.t 53)),
     .c 55 (.f 141) [.t 54],
     .r 7 (.mv (.t 55))])
  (.seq (.reg [.r 56 (.mv (.t 7)),
     .r 57 (.bin .neq (.t 56) (.c (.d (.int .i64 0))))])
  (.cond (.t 57)
    (.seq (.reg [.r 58 (.mv (.t 7)),
       .r 4 (.mv (.t 58))])
    .ret)
    .skip)))
  (.seq (.seq (.reg [.r 59 (.fld 4 (.t 5)),
     .o 60 (.ld1 (.t 59)),
     .r 61 (.len (.t 60)),
     .r 62 (.bin .gtr (.t 61) (.c (.d (.int .i64 200))))])
  (.cond (.t 62)
    (.seq (.reg [.r 4 (.mv (.c (.d (.int .i64 2))))])
    .ret)
    .skip))
  (.seq (.seq (.reg [.r 8 (.mv (.c (.d (.int .i64 0))))])
  sc_interchangeref7_checkMessage_B2)
  (.seq (.seq (.reg (.r 93 (.fld 1 (.t 5)) :: .o 94 (.ld1 (.t 93)) :: .r 95 (.bin .eql (.t 94) (.c (.d (.int .i64 1)))) :: .r 96 (.mv (.t 95)) :: gapp [97, 98, 99, 100, 101, 102, 103, 104, 105, 106] 96 true (.r 97 (.fld 3 (.t 5)) :: .r 98 (.ld1 (.t 97)) :: .r 99 (.len (.t 98)) :: .r 100 (.bin .gtr (.t 99) (.c (.d (.int .i64 0)))) :: .r 101 (.mv (.t 100)) :: gapp [102, 103, 104, 105] 101 false (.r 102 (.fld 4 (.t 5)) :: .r 103 (.ld1 (.t 102)) :: .r 104 (.len (.t 103)) :: .r 105 (.bin .gtr (.t 104) (.c (.d (.int .i64 0)))) :: []) (.r 106 (.pick (.t 101) (.c (.d (.bool true))) (.t 105)) :: [])) (.r 107 (.pick (.t 96) (.t 106) (.c (.d (.bool false)))) :: [])))
  (.cond (.t 107)
    (.seq (.reg [.r 4 (.mv (.c (.d (.int .i64 12))))])
    .ret)
    .skip))
  (.seq (.reg [.r 4 (.mv (.c (.d (.int .i64 0))))])
  .ret)))))))))))
theorem fit_interchangeref7_checkMessage : fits Tryd.prog 93 Tryd.f93 sc_interchangeref7_checkMessage [.t 4] 2 = true := by kernel_rfl

def sc_interchangeref2_SameSegments_L1 : SC :=
  (.seq (.seq (.reg [.r 11 (.mv (.t 5)),
     .r 12 (.mv (.t 0)),
     .r 13 (.len (.t 12)),
     .r 14 (.bin .lss (.t 11) (.t 13))])
  (.cond (.t 14)
    .skip
    (.exit 0)))
  (.seq (.block 1 (.seq (.regD [.r 17 (.mv (.t 0)),
       .r 18 (.mv (.t 5)),
       .r 19 (.idx 2 (.t 17) (.t 18)),
       .r 20 (.ldA 2 (.t 19)),
       .r 21 (.mv (.t 1)),
       .r 22 (.mv (.t 5)),
       .r 23 (.idx 2 (.t 21) (.t 22)),
       .r 24 (.ldA 2 (.t 23)),
       .c 25 (.f 52) [.t 20, .t 24],
       .r 26 (.not (.t 25))])
    (.cond (.t 26)
      (.seq (.reg [.r 4 (.mv (.c (.d (.bool false))))])
      .ret)
      .skip)))
  (.reg [.r 15 (.mv (.t 5)),
     .r 16 (.bin .add (.t 15) (.c (.d (.int .i64 1)))),
     .r 5 (.mv (.t 16))])))
def sc_interchangeref2_SameSegments_B1 : SC := .block 0 (.loop sc_interchangeref2_SameSegments_L1)
/-- interchange/interchangeref2.SameSegments -/
def sc_interchangeref2_SameSegments : SC :=
  (.seq (.reg [.r 4 (.mv (.c (.d (.bool false))))])
  (.seq (.seq (.reg [.r 6 (.mv (.t 0)),
     .r 7 (.len (.t 6)),
     .r 8 (.mv (.t 1)),
     .r 9 (.len (.t 8)),
     .r 10 (.bin .neq (.t 7) (.t 9))])
  (.cond (.t 10)
    (.seq (.reg [.r 4 (.mv (.c (.d (.bool false))))])
    .ret)
    .skip))
  (.seq (.seq (.reg [.r 5 (.mv (.c (.d (.int .i64 0))))])
  sc_interchangeref2_SameSegments_B1)
  (.seq (.reg [.r 4 (.mv (.c (.d (.bool true))))])
  .ret))))
theorem fit_interchangeref2_SameSegments : fits Tryd.prog 14 Tryd.f14 sc_interchangeref2_SameSegments [.t 4] 2 = true := by kernel_rfl

set_option maxRecDepth 100000 in
set_option maxHeartbeats 40000000 in
noncomputable def sims_G5_2_0 : (∀ (x0 : List Tapi_Flaw), {m : Option (Int) // ∀ r, m = some r → PureSpec Tryd.prog 137 [.slice (List.map rTapi_Flaw x0)] (.int .i64 r)}) × (∀ (x0 : List Int), {m : Option (Int) // ∀ r, m = some r → PureSpec Tryd.prog 92 [.slice (List.map rowI x0)] (.int .i64 r)}) × (∀ (x0 : List Tapi_MessageReply) (x1 : Int), {m : Option (Int) // ∀ r, m = some r → PureSpec Tryd.prog 93 [.slice (List.map rTapi_MessageReply x0), .int .i64 x1] (.int .i64 r)}) × (∀ (x0 : List Tapi_Segment) (x1 : List Tapi_Segment), {m : Option (Bool) // ∀ r, m = some r → PureSpec Tryd.prog 14 [.slice (List.map rTapi_Segment x0), .slice (List.map rTapi_Segment x1)] (.bool r)}) := by
  refine ⟨?g0, ?g1, ?g2, ?g3⟩
  case' g0 => (intro x0; apply Subtype.mk; intro r hm; apply pure_walk Tryd.func137 fit_reply_flawsFault; unfold sc_reply_flawsFault)
  case' g1 => (intro x0; apply Subtype.mk; intro r hm; apply pure_walk Tryd.func92 fit_reply_together; unfold sc_reply_together)
  case' g2 => (intro x0 x1; apply Subtype.mk; intro r hm; apply pure_walk Tryd.func93 fit_interchangeref7_checkMessage; unfold sc_interchangeref7_checkMessage)
  case' g3 => (intro x0 x1; apply Subtype.mk; intro r hm; apply pure_walk Tryd.func14 fit_interchangeref2_SameSegments; unfold sc_interchangeref2_SameSegments)
  all_goals (repeat' (first | with_reducible refine W_seq ?_ | with_reducible refine W_reg ?_ | with_reducible refine W_regD ?_ | with_reducible refine W_block ?_ | with_reducible refine W_skip ?_ | with_reducible refine W_ret ?_ | with_reducible refine W_exit ?_ | with_reducible refine O_nil ?_ | with_reducible refine K_seq ?_ | with_reducible refine K_seqE ?_ | with_reducible refine K_seqR ?_ | with_reducible refine K_block ?_ | with_reducible refine K_blockR ?_ | with_reducible refine K_blockE ?_ | ((with_reducible apply K_blockN); decide) | with_reducible refine O_o2r ?_ | ((with_reducible apply O_idxr hm); (iterate 2 (simp only [push_cast, seval]; rfl)); (intro _; rfl); intro e hm) | ((with_reducible apply O_idxVr hm); (iterate 3 (simp only [push_cast, seval]; rfl)); intro e hm) | ((with_reducible apply O_r); (simp only [push_cast, seval]; rfl); (first | exact trivial | omega)) | ((with_reducible apply O_ldV1r hm); (iterate 2 (simp only [push_cast, seval]; rfl)); (intro _; rfl); intro e hm) | ((with_reducible apply O_ldAVr hm); (iterate 2 (simp only [push_cast, seval]; rfl)); (intro _; rfl); intro e hm) | ((with_reducible apply O_strr hm); (iterate 2 (simp only [push_cast, seval]; rfl)); intro hm) | ((with_reducible apply O_and hm); (simp only [push_cast, seval]; rfl); rfl; intro v hm; rotate_left; intro v g hm) | ((with_reducible apply O_or hm); (simp only [push_cast, seval]; rfl); rfl; intro v hm; rotate_left; intro v g hm) | ((with_reducible apply W_condT); (focus (simp only [push_cast, seval]; done))) | ((with_reducible apply W_condF); (focus (simp only [push_cast, seval]; done))) | ((with_reducible apply O_cF hm); (simp only [push_cast, seval]; rfl); (first | apply spec_reply_isFlaw _ | apply spec_kit_Outside _ _ _ | apply spec_kit_IsTag _ | apply spec_kit_IsName _ | apply spec_reply_together_1 _ | apply spec_slices_ContainsFunc_int_int _ _ _ _ (fun a0 r h => spec_reply_together_1_1 a0 _ r h) | apply spec_slices_ContainsFunc_int_int _ _ _ _ (fun a0 r h => spec_reply_together_1 a0 r h) | apply spec_reply_together_1_1 _ _ | apply spec_interchangeref2_IsReference _ | apply spec_interchangeref7_isVerdict _ | apply spec_interchangeref7_checkFlaws _ | apply spec_interchangeref2_IsName _ | apply spec_interchangeref2_SameSegment _ _); (any_goals ((repeat' (first | rfl | (with_reducible first | apply fT_Tapi_Element | apply fT_Tapi_Segment | apply fT_Tapi_MessageReply | apply fT_Tapi_Flaw | apply fT_Tapi_Spot | apply f_optN | apply f_optS | apply f_some | apply f_tup | apply f_agg | apply f_ptr | apply f_fn | apply dv_slice | apply sv_d | apply f_cons | apply fold_nil | apply fold_cons | apply fold_app | apply f_rowI | apply f_rowY | apply f_rowS | apply f_rowB | apply f_rowL) | (with_reducible apply f_byte; decide))); done)); intro x hm) | ((with_reducible apply O_cvS hm); (iterate 2 (simp only [push_cast, seval]; rfl)); (focus (first | exact spec_reply_isFlaw _ | exact spec_kit_Outside _ _ _ | exact spec_kit_IsTag _ | exact spec_kit_IsName _ | exact spec_reply_together_1 _ | exact spec_slices_ContainsFunc_int_int _ _ _ _ (fun a0 r h => spec_reply_together_1_1 a0 _ r h) | exact spec_slices_ContainsFunc_int_int _ _ _ _ (fun a0 r h => spec_reply_together_1 a0 r h) | exact spec_reply_together_1_1 _ _ | exact spec_interchangeref2_IsReference _ | exact spec_interchangeref7_isVerdict _ | exact spec_interchangeref7_checkFlaws _ | exact spec_interchangeref2_IsName _ | exact spec_interchangeref2_SameSegment _ _)); intro x hm) | ((with_reducible apply O_w); (simp only [push_cast, seval]; rfl); (first | exact trivial | omega)) | ((with_reducible apply O_stVA hm); (iterate 4 (simp only [push_cast, seval]; rfl)); (focus ((repeat' (first | rfl | (with_reducible first | apply fT_Tapi_Element | apply fT_Tapi_Segment | apply fT_Tapi_MessageReply | apply fT_Tapi_Flaw | apply fT_Tapi_Spot | apply f_optN | apply f_optS | apply f_some | apply f_tup | apply f_agg | apply f_ptr | apply f_fn | apply dv_slice | apply sv_d | apply f_cons | apply fold_nil | apply fold_cons | apply fold_app | apply f_rowI | apply f_rowY | apply f_rowS | apply f_rowB | apply f_rowL) | (with_reducible apply f_byte; decide))); done)); decide; (intro _; rfl); intro e hm) | ((with_reducible apply S_condB hm); (simp only [push_cast, seval]; rfl); intro hm; rotate_left; intro hm) | ((with_reducible apply K_endS hm); (focus (simp only [resOf, resL, RV.get, push_cast, seval]; rfl)); (focus ((repeat' (first | rfl | (with_reducible first | apply fT_Tapi_Element | apply fT_Tapi_Segment | apply fT_Tapi_MessageReply | apply fT_Tapi_Flaw | apply fT_Tapi_Spot | apply f_optN | apply f_optS | apply f_some | apply f_tup | apply f_agg | apply f_ptr | apply f_fn | apply dv_slice | apply sv_d | apply f_cons | apply fold_nil | apply fold_cons | apply fold_app | apply f_rowI | apply f_rowY | apply f_rowS | apply f_rowB | apply f_rowL) | (with_reducible apply f_byte; decide))); done))) | ((with_reducible apply K_bool hm); (simp only [push_cast, seval]; rfl)) | ((with_reducible apply K_leave hm); intro r hm) | ((with_reducible apply K_leaveR hm); intro r hm) | ((apply S_loopY (b := 0) (X := sc_reply_flawsFault_B1) (x := sc_reply_flawsFault_L1) rfl (fun (c : SV × SV × SV) (s : Int) => st [(0, c.1), (8, c.2.1), (9, c.2.2), (10, .d (.int .i64 s))] []) (c := (_, _, _)) (s0 := _) hm); (focus (first | (dsimp only; done) | (dsimp only; rfl) | rfl)); (with_reducible refine Then.mk ?_ ?_)) | ((apply S_loopY (b := 0) (X := sc_interchangeref7_checkMessage_B1) (x := sc_interchangeref7_checkMessage_L1) rfl (fun (c : SV × SV × Ch) (s : Int) => st [(0, c.1), (1, c.2.1), (5, .ref 5 0), (6, .d (.int .i64 s))] [(5, c.2.2)]) (c := (_, _, _)) (s0 := _) hm); (focus (first | (dsimp only; done) | (dsimp only; rfl) | rfl)); (with_reducible refine Then.mk ?_ ?_)) | ((apply S_loopY (b := 2) (X := sc_interchangeref7_checkMessage_B2) (x := sc_interchangeref7_checkMessage_L2) rfl (fun (c : Ch) (s : Int) => st [(5, .ref 5 0), (8, .d (.int .i64 s))] [(5, c)]) (c := _) (s0 := _) hm); (focus (first | (dsimp only; done) | (dsimp only; rfl) | rfl)); (with_reducible refine Then.mk ?_ ?_)) | ((apply S_loopY (b := 0) (X := sc_interchangeref2_SameSegments_B1) (x := sc_interchangeref2_SameSegments_L1) rfl (fun (c : SV × SV) (s : Int) => st [(0, c.1), (1, c.2), (5, .d (.int .i64 s))] []) (c := (_, _)) (s0 := _) hm); (focus (first | (dsimp only; done) | (dsimp only; rfl) | rfl)); (with_reducible refine Then.mk ?_ ?_)) | ((apply K_next (s' := _) hm); (focus (first | (dsimp only; done) | (dsimp only; rfl) | rfl))) | ((apply K_brk (s' := _) hm); (focus (first | (dsimp only; done) | (dsimp only; rfl) | rfl))) | (((with_reducible apply K_brkN hm); (focus decide); intro r hm)) | (((with_reducible apply K_brkR hm); intro r hm)) | (((with_reducible apply LoopB.of); (focus (first | (dsimp only; done) | (dsimp only; rfl) | rfl)); (focus ((intro _; repeat' (first | with_reducible exact impC_end | with_reducible exact impC_endF | with_reducible refine impC_seq ?_ | with_reducible refine impC_block ?_ | ((with_reducible refine impC_rnd ?_); intro _) | ((with_reducible refine impC_brk ?_); intro _))))); (intro s o hm; first | unfold sc_reply_flawsFault_L1 | unfold sc_interchangeref7_checkMessage_L1 | unfold sc_interchangeref7_checkMessage_L2 | unfold sc_interchangeref2_SameSegments_L1); rotate_left; intro s hm)) | (((apply imp_stT; (repeat' (first | with_reducible exact keepT_nil | with_reducible exact keepC_nil | with_reducible apply keepT_cons | with_reducible apply keepC_cons | ((with_reducible apply svle_eq); (focus (first | (simp only [push_cast, seval]; rfl) | rfl)); (focus ((repeat' (first | rfl | (with_reducible first | apply fT_Tapi_Element | apply fT_Tapi_Segment | apply fT_Tapi_MessageReply | apply fT_Tapi_Flaw | apply fT_Tapi_Spot | apply f_optN | apply f_optS | apply f_some | apply f_tup | apply f_agg | apply f_ptr | apply f_fn | apply dv_slice | apply sv_d | apply f_cons | apply fold_nil | apply fold_cons | apply fold_app | apply f_rowI | apply f_rowY | apply f_rowS | apply f_rowB | apply f_rowL) | (with_reducible apply f_byte; decide))); done))) | ((with_reducible apply svle_td); (focus (first | (simp only [push_cast, seval]; rfl) | rfl)); (focus (first | (simp only [push_cast, seval]; rfl) | rfl)); (focus ((repeat' (first | rfl | (with_reducible first | apply fT_Tapi_Element | apply fT_Tapi_Segment | apply fT_Tapi_MessageReply | apply fT_Tapi_Flaw | apply fT_Tapi_Spot | apply f_optN | apply f_optS | apply f_some | apply f_tup | apply f_agg | apply f_ptr | apply f_fn | apply dv_slice | apply sv_d | apply f_cons | apply fold_nil | apply fold_cons | apply fold_app | apply f_rowI | apply f_rowY | apply f_rowS | apply f_rowB | apply f_rowL) | (with_reducible apply f_byte; decide))); done))) | ((with_reducible apply chle_eq); (focus (first | (simp only [push_cast, seval]; rfl) | rfl)); (first | with_reducible exact chle_rfl rfl | with_reducible exact chle_map0 | with_reducible apply chle_vec | with_reducible apply chle_box)) | (with_reducible first | apply cT_Tapi_Element | apply cT_Tapi_Segment | apply cT_Tapi_MessageReply | apply cT_Tapi_Flaw | apply cT_Tapi_Spot | apply r_shS | apply r_shI | apply r_rflO | apply r_oneO | apply r_appO | apply r_nilO | apply c_ownN | apply c_ownL | apply vc_rfl | apply vc_nil | apply vc_cons | apply r_rfl | apply r_rows | apply r_nil | apply r_app | apply r_cons | apply c_rowI | apply c_rowY | apply c_rowS | apply c_rowB | apply c_rowL))); done)))))
noncomputable def m_reply_flawsFault (x0 : List Tapi_Flaw) : Option (Int) := (sims_G5_2_0.1 x0).1
theorem spec_reply_flawsFault (x0 : List Tapi_Flaw) : ∀ r, m_reply_flawsFault x0 = some r → PureSpec Tryd.prog 137 [.slice (List.map rTapi_Flaw x0)] (.int .i64 r) := (sims_G5_2_0.1 x0).2
noncomputable def m_reply_together (x0 : List Int) : Option (Int) := (sims_G5_2_0.2.1 x0).1
theorem spec_reply_together (x0 : List Int) : ∀ r, m_reply_together x0 = some r → PureSpec Tryd.prog 92 [.slice (List.map rowI x0)] (.int .i64 r) := (sims_G5_2_0.2.1 x0).2
noncomputable def m_interchangeref7_checkMessage (x0 : List Tapi_MessageReply) (x1 : Int) : Option (Int) := (sims_G5_2_0.2.2.1 x0 x1).1
theorem spec_interchangeref7_checkMessage (x0 : List Tapi_MessageReply) (x1 : Int) : ∀ r, m_interchangeref7_checkMessage x0 x1 = some r → PureSpec Tryd.prog 93 [.slice (List.map rTapi_MessageReply x0), .int .i64 x1] (.int .i64 r) := (sims_G5_2_0.2.2.1 x0 x1).2
noncomputable def m_interchangeref2_SameSegments (x0 : List Tapi_Segment) (x1 : List Tapi_Segment) : Option (Bool) := (sims_G5_2_0.2.2.2 x0 x1).1
theorem spec_interchangeref2_SameSegments (x0 : List Tapi_Segment) (x1 : List Tapi_Segment) : ∀ r, m_interchangeref2_SameSegments x0 x1 = some r → PureSpec Tryd.prog 14 [.slice (List.map rTapi_Segment x0), .slice (List.map rTapi_Segment x1)] (.bool r) := (sims_G5_2_0.2.2.2 x0 x1).2

def sc_reply_messageFault_L1 : SC :=
  (.seq (.reg [.r 58 (.bin .lss (.t 57) (.t 56))])
  (.seq (.cond (.t 58)
    .skip
    (.exit 1))
  (.seq (.block 2 (.seq (.reg [.r 59 (.mv (.t 57)),
       .r 60 (.idx 1 (.t 55) (.t 57)),
       .o 61 (.ld1 (.t 60)),
       .r 7 (.mv (.t 59)),
       .r 8 (.mv (.t 61))])
    (.seq (.seq (.reg [.r 62 (.mv (.t 8)),
       .c 63 (.f 67) [.t 62],
       .r 64 (.not (.t 63))])
    (.cond (.t 64)
      (.seq (.reg [.r 4 (.mv (.c (.d (.int .i64 5))))])
      .ret)
      .skip))
    (.seq (.reg (.r 65 (.mv (.t 7)) :: .r 66 (.bin .gtr (.t 65) (.c (.d (.int .i64 0)))) :: .r 67 (.mv (.t 66)) :: gapp [68, 69, 70, 71, 72, 73, 74, 75] 67 true (.r 68 (.mv (.t 8)) :: .r 69 (.fld 4 (.t 2)) :: .r 70 (.ld1 (.t 69)) :: .r 71 (.mv (.t 7)) :: .r 72 (.bin .sub (.t 71) (.c (.d (.int .i64 1)))) :: .r 73 (.idx 1 (.t 70) (.t 72)) :: .r 74 (.ld1 (.t 73)) :: .r 75 (.bin .leq (.t 68) (.t 74)) :: []) (.r 76 (.pick (.t 67) (.t 75) (.c (.d (.bool false)))) :: [])))
    (.cond (.t 76)
      (.seq (.reg [.r 4 (.mv (.c (.d (.int .i64 8))))])
      .ret)
      .skip)))))
  (.reg [.r 77 (.bin .add (.t 57) (.c (.d (.int .i64 1)))),
     .r 57 (.mv (.t 77))]))))
def sc_reply_messageFault_B1 : SC := .block 1 (.loop sc_reply_messageFault_L1)
/-- interchange/reply.messageFault -/
def sc_reply_messageFault : SC :=
  (.seq (.reg [.r 2 (.boxI (.t 0)),
     .r 4 (.mv (.c (.d (.int .i64 0))))])
  (.seq (.reg (.r 9 (.fld 3 (.t 2)) :: .o 10 (.ld1 (.t 9)) :: .r 11 (.len (.t 10)) :: .r 12 (.bin .gtr (.t 11) (.c (.d (.int .i64 0)))) :: .r 13 (.mv (.t 12)) :: gapp [14, 15, 16, 17] 13 false (.r 14 (.fld 4 (.t 2)) :: .r 15 (.ld1 (.t 14)) :: .r 16 (.len (.t 15)) :: .r 17 (.bin .gtr (.t 16) (.c (.d (.int .i64 0)))) :: []) (.r 18 (.pick (.t 13) (.c (.d (.bool true))) (.t 17)) :: .r 5 (.mv (.t 18)) :: [])))
  (.seq (.block 0 (.seq (.reg [.r 20 (.fld 0 (.t 2)),
       .o 21 (.ld1 (.t 20)),
       .c 22 (.f 44) [.t 21],
       .r 23 (.not (.t 22)),
       .r 19 (.mv (.t 23))])
    (.cond (.t 19)
      (.seq (.reg [.r 4 (.mv (.c (.d (.int .i64 3))))])
      .ret)
      (.seq (.reg [.r 25 (.fld 1 (.t 2)),
         .o 26 (.ld1 (.t 25)),
         .c 27 (.f 45) [.t 26],
         .r 28 (.not (.t 27)),
         .r 24 (.mv (.t 28))])
      (.cond (.t 24)
        (.seq (.reg [.r 4 (.mv (.c (.d (.int .i64 4))))])
        .ret)
        (.seq (.reg [.r 30 (.mv (.t 1)),
           .r 31 (.mkfn 136 [.t 2]),
           .c 32 (.f 135) [.t 30, .t 31],
           .r 29 (.mv (.t 32))])
        (.cond (.t 29)
          (.seq (.reg [.r 4 (.mv (.c (.d (.int .i64 7))))])
          .ret)
          (.seq (.reg (.r 34 (.fld 2 (.t 2)) :: .o 35 (.ld1 (.t 34)) :: .r 36 (.mv (.t 35)) :: gapp [37, 38, 39, 40, 41, 42] 36 true (.r 37 (.fld 1 (.t 2)) :: .r 38 (.ld1 (.t 37)) :: .r 39 (.bin .neq (.t 38) (.c (.d (.int .i64 3)))) :: .r 40 (.mv (.t 39)) :: gapp [41] 40 false (.r 41 (.mv (.t 5)) :: []) (.r 42 (.pick (.t 40) (.c (.d (.bool true))) (.t 41)) :: [])) (.r 43 (.pick (.t 36) (.t 42) (.c (.d (.bool false)))) :: .r 33 (.mv (.t 43)) :: [])))
          (.cond (.t 33)
            (.seq (.reg [.r 4 (.mv (.c (.d (.int .i64 12))))])
            .ret)
            .skip)))))))))
  (.seq (.seq (.reg [.r 44 (.fld 3 (.t 2)),
     .o 45 (.ld1 (.t 44)),
     .c 46 (.f 137) [.t 45],
     .r 6 (.mv (.t 46))])
  (.seq (.reg [.r 47 (.mv (.t 6)),
     .r 48 (.bin .neq (.t 47) (.c (.d (.int .i64 0))))])
  (.cond (.t 48)
    (.seq (.reg [.r 49 (.mv (.t 6)),
       .r 4 (.mv (.t 49))])
    .ret)
    .skip)))
  (.seq (.seq (.reg [.r 50 (.fld 4 (.t 2)),
     .o 51 (.ld1 (.t 50)),
     .r 52 (.len (.t 51)),
     .r 53 (.bin .gtr (.t 52) (.c (.d (.int .i64 200))))])
  (.cond (.t 53)
    (.seq (.reg [.r 4 (.mv (.c (.d (.int .i64 2))))])
    .ret)
    .skip))
  (.seq (.seq (.reg [.r 54 (.fld 4 (.t 2)),
     .o 55 (.ld1 (.t 54)),
     .r 56 (.len (.t 55)),
     .r 57 (.mv (.c (.d (.int .i64 0))))])
  sc_reply_messageFault_B1)
  (.seq (.seq (.reg (.r 78 (.fld 1 (.t 2)) :: .o 79 (.ld1 (.t 78)) :: .r 80 (.bin .eql (.t 79) (.c (.d (.int .i64 1)))) :: .r 81 (.mv (.t 80)) :: gapp [82] 81 true (.r 82 (.mv (.t 5)) :: []) (.r 83 (.pick (.t 81) (.t 82) (.c (.d (.bool false)))) :: [])))
  (.cond (.t 83)
    (.seq (.reg [.r 4 (.mv (.c (.d (.int .i64 12))))])
    .ret)
    .skip))
  (.seq (.reg [.r 4 (.mv (.c (.d (.int .i64 0))))])
  .ret))))))))
theorem fit_reply_messageFault : fits Tryd.prog 90 Tryd.f90 sc_reply_messageFault [.t 4] 2 = true := by kernel_rfl

def sc_reply_verdictOfGroup_L1 : SC :=
  (.seq (.reg [.r 10 (.bin .lss (.t 9) (.t 8))])
  (.seq (.cond (.t 10)
    .skip
    (.exit 0))
  (.seq (.block 1 (.seq (.reg [.r 11 (.idx 5 (.t 7) (.t 9)),
       .o 12 (.ldA 5 (.t 11)),
       .w 5 (.boxM (.c (.agg [.d (.str []), .d (.int .i64 0), .d (.bool false), .nils, .nils]))),
       .w 0 (.st 5 (.t 5) (.t 12))])
    (.reg [.r 13 (.mv (.t 3)),
       .r 14 (.fld 1 (.t 5)),
       .o 15 (.ld1 (.t 14)),
       .r 16 (.bslice 1 [.t 15]),
       .w 17 (.app 3 1 (.t 13) (.t 16)),
       .r 3 (.mv (.t 17))])))
  (.reg [.r 18 (.bin .add (.t 9) (.c (.d (.int .i64 1)))),
     .r 9 (.mv (.t 18))]))))
def sc_reply_verdictOfGroup_B1 : SC := .block 0 (.loop sc_reply_verdictOfGroup_L1)
/-- interchange/reply.verdictOfGroup -/
def sc_reply_verdictOfGroup : SC :=
  (.seq (.reg [.r 1 (.boxI (.t 0)),
     .r 2 (.mv (.c (.d (.int .i64 0))))])
  (.seq (.reg [.r 3 (.mv (.c (.nils)))])
  (.seq (.seq (.reg [.r 6 (.fld 2 (.t 1)),
     .o 7 (.ld1 (.t 6)),
     .r 8 (.len (.t 7)),
     .r 9 (.mv (.c (.d (.int .i64 0))))])
  sc_reply_verdictOfGroup_B1)
  (.seq (.reg [.r 19 (.mv (.t 3)),
     .c 20 (.f 92) [.t 19],
     .r 2 (.mv (.t 20))])
  .ret))))
theorem fit_reply_verdictOfGroup : fits Tryd.prog 91 Tryd.f91 sc_reply_verdictOfGroup [.t 2] 1 = true := by kernel_rfl

def sc_reply_verdictOf_L1 : SC :=
  (.seq (.reg [.r 10 (.bin .lss (.t 9) (.t 8))])
  (.seq (.cond (.t 10)
    .skip
    (.exit 0))
  (.seq (.block 1 (.seq (.reg [.r 11 (.idx 3 (.t 7) (.t 9)),
       .o 12 (.ldA 3 (.t 11)),
       .w 5 (.boxM (.c (.agg [.d (.str []), .d (.int .i64 0), .nils]))),
       .w 0 (.st 3 (.t 5) (.t 12))])
    (.reg [.r 13 (.mv (.t 3)),
       .r 14 (.fld 1 (.t 5)),
       .o 15 (.ld1 (.t 14)),
       .r 16 (.bslice 1 [.t 15]),
       .w 17 (.app 3 1 (.t 13) (.t 16)),
       .r 3 (.mv (.t 17))])))
  (.reg [.r 18 (.bin .add (.t 9) (.c (.d (.int .i64 1)))),
     .r 9 (.mv (.t 18))]))))
def sc_reply_verdictOf_B1 : SC := .block 0 (.loop sc_reply_verdictOf_L1)
/-- interchange/reply.verdictOf -/
def sc_reply_verdictOf : SC :=
  (.seq (.reg [.r 1 (.boxI (.t 0)),
     .r 2 (.mv (.c (.d (.int .i64 0))))])
  (.seq (.reg [.r 3 (.mv (.c (.nils)))])
  (.seq (.seq (.reg [.r 6 (.fld 2 (.t 1)),
     .o 7 (.ld1 (.t 6)),
     .r 8 (.len (.t 7)),
     .r 9 (.mv (.c (.d (.int .i64 0))))])
  sc_reply_verdictOf_B1)
  (.seq (.reg [.r 19 (.mv (.t 3)),
     .c 20 (.f 92) [.t 19],
     .r 2 (.mv (.t 20))])
  .ret))))
theorem fit_reply_verdictOf : fits Tryd.prog 47 Tryd.f47 sc_reply_verdictOf [.t 2] 1 = true := by kernel_rfl

def sc_interchangeref7_checkGroup_L1 : SC :=
  (.seq (.seq (.reg [.r 21 (.mv (.t 6)),
     .r 22 (.mv (.t 1)),
     .r 23 (.bin .lss (.t 21) (.t 22))])
  (.cond (.t 23)
    .skip
    (.exit 0)))
  (.seq (.block 1 (.seq (.regD [.r 26 (.mv (.t 0)),
       .r 27 (.mv (.t 6)),
       .r 28 (.idx 3 (.t 26) (.t 27)),
       .r 29 (.fld 0 (.t 28)),
       .r 30 (.ld1 (.t 29)),
       .r 31 (.fld 0 (.t 5)),
       .r 32 (.ld1 (.t 31)),
       .r 33 (.bin .eql (.t 30) (.t 32))])
    (.cond (.t 33)
      (.seq (.reg [.r 4 (.mv (.c (.d (.int .i64 7))))])
      .ret)
      .skip)))
  (.reg [.r 24 (.mv (.t 6)),
     .r 25 (.bin .add (.t 24) (.c (.d (.int .i64 1)))),
     .r 6 (.mv (.t 25))])))
def sc_interchangeref7_checkGroup_B1 : SC := .block 0 (.loop sc_interchangeref7_checkGroup_L1)
def sc_interchangeref7_checkGroup_L2 : SC :=
  (.seq (.seq (.reg [.r 34 (.mv (.t 7)),
     .r 35 (.fld 2 (.t 5)),
     .o 36 (.ld1 (.t 35)),
     .r 37 (.len (.t 36)),
     .r 38 (.bin .lss (.t 34) (.t 37))])
  (.cond (.t 38)
    .skip
    (.exit 2)))
  (.seq (.block 3 (.seq (.reg [.r 41 (.fld 2 (.t 5)),
       .o 42 (.ld1 (.t 41)),
       .r 43 (.mv (.t 7)),
       .c 44 (.f 93) [.t 42, .t 43],
       .r 8 (.mv (.t 44))])
    (.seq (.reg [.r 45 (.mv (.t 8)),
       .r 46 (.bin .neq (.t 45) (.c (.d (.int .i64 0))))])
    (.cond (.t 46)
      (.seq (.reg [.r 47 (.mv (.t 8)),
         .r 4 (.mv (.t 47))])
      .ret)
      .skip))))
  (.reg [.r 39 (.mv (.t 7)),
     .r 40 (.bin .add (.t 39) (.c (.d (.int .i64 1)))),
     .r 7 (.mv (.t 40))])))
def sc_interchangeref7_checkGroup_B2 : SC := .block 2 (.loop sc_interchangeref7_checkGroup_L2)
/-- interchange/interchangeref7.checkGroup -/
def sc_interchangeref7_checkGroup : SC :=
  (.seq (.reg [.r 4 (.mv (.c (.d (.int .i64 0))))])
  (.seq (.reg [.r 9 (.mv (.t 0)),
     .r 10 (.mv (.t 1)),
     .r 11 (.idx 3 (.t 9) (.t 10)),
     .o 12 (.ldA 3 (.t 11)),
     .w 5 (.boxM (.c (.agg [.d (.str []), .d (.int .i64 0), .nils]))),
     .w 0 (.st 3 (.t 5) (.t 12))])
  (.seq (.seq (.reg [.r 13 (.fld 0 (.t 5)),
     .o 14 (.ld1 (.t 13)),
     .c 15 (.f 48) [.t 14],
     .r 16 (.not (.t 15))])
  (.cond (.t 16)
    (.seq (.reg [.r 4 (.mv (.c (.d (.int .i64 3))))])
    .ret)
    .skip))
  (.seq (.seq (.reg [.r 17 (.fld 1 (.t 5)),
     .o 18 (.ld1 (.t 17)),
     .c 19 (.f 49) [.t 18],
     .r 20 (.not (.t 19))])
  (.cond (.t 20)
    (.seq (.reg [.r 4 (.mv (.c (.d (.int .i64 4))))])
    .ret)
    .skip))
  (.seq (.seq (.reg [.r 6 (.mv (.c (.d (.int .i64 0))))])
  sc_interchangeref7_checkGroup_B1)
  (.seq (.seq (.reg [.r 7 (.mv (.c (.d (.int .i64 0))))])
  sc_interchangeref7_checkGroup_B2)
  (.seq (.seq (.regD [.r 48 (.fld 1 (.t 5)),
     .r 49 (.ld1 (.t 48)),
     .r 50 (.ldA 3 (.t 5)),
     .c 51 (.f 94) [.t 50],
     .r 52 (.bin .neq (.t 49) (.t 51))])
  (.cond (.t 52)
    (.seq (.reg [.r 4 (.mv (.c (.d (.int .i64 12))))])
    .ret)
    .skip))
  (.seq (.reg [.r 4 (.mv (.c (.d (.int .i64 0))))])
  .ret))))))))
theorem fit_interchangeref7_checkGroup : fits Tryd.prog 50 Tryd.f50 sc_interchangeref7_checkGroup [.t 4] 2 = true := by kernel_rfl

set_option maxRecDepth 100000 in
set_option maxHeartbeats 40000000 in
noncomputable def sims_G5_3_0 : (∀ (x0 : Tapi_MessageReply) (x1 : List Tapi_MessageReply), {m : Option (Int) // ∀ r, m = some r → PureSpec Tryd.prog 90 [.agg (rTapi_MessageReply x0), .slice (List.map rTapi_MessageReply x1)] (.int .i64 r)}) × (∀ (x0 : Tapi_GroupReply), {m : Option (Int) // ∀ r, m = some r → PureSpec Tryd.prog 91 [.agg (rTapi_GroupReply x0)] (.int .i64 r)}) × (∀ (x0 : Tapi_Reply), {m : Option (Int) // ∀ r, m = some r → PureSpec Tryd.prog 47 [.agg (rTapi_Reply x0)] (.int .i64 r)}) × (∀ (x0 : List Tapi_GroupReply) (x1 : Int), {m : Option (Int) // ∀ r, m = some r → PureSpec Tryd.prog 50 [.slice (List.map rTapi_GroupReply x0), .int .i64 x1] (.int .i64 r)}) := by
  refine ⟨?g0, ?g1, ?g2, ?g3⟩
  case' g0 => (intro x0 x1; apply Subtype.mk; intro r hm; apply pure_walk Tryd.func90 fit_reply_messageFault; unfold sc_reply_messageFault)
  case' g1 => (intro x0; apply Subtype.mk; intro r hm; apply pure_walk Tryd.func91 fit_reply_verdictOfGroup; unfold sc_reply_verdictOfGroup)
  case' g2 => (intro x0; apply Subtype.mk; intro r hm; apply pure_walk Tryd.func47 fit_reply_verdictOf; unfold sc_reply_verdictOf)
  case' g3 => (intro x0 x1; apply Subtype.mk; intro r hm; apply pure_walk Tryd.func50 fit_interchangeref7_checkGroup; unfold sc_interchangeref7_checkGroup)
  all_goals (repeat' (first | with_reducible refine W_seq ?_ | with_reducible refine W_reg ?_ | with_reducible refine W_regD ?_ | with_reducible refine W_block ?_ | with_reducible refine W_skip ?_ | with_reducible refine W_ret ?_ | with_reducible refine W_exit ?_ | with_reducible refine O_nil ?_ | with_reducible refine K_seq ?_ | with_reducible refine K_seqE ?_ | with_reducible refine K_seqR ?_ | with_reducible refine K_block ?_ | with_reducible refine K_blockR ?_ | with_reducible refine K_blockE ?_ | ((with_reducible apply K_blockN); decide) | with_reducible refine O_o2r ?_ | ((with_reducible apply O_idxr hm); (iterate 2 (simp only [push_cast, seval]; rfl)); (intro _; rfl); intro e hm) | ((with_reducible apply O_idxVr hm); (iterate 3 (simp only [push_cast, seval]; rfl)); intro e hm) | ((with_reducible apply O_idxLr hm (row := rowI)); (iterate 2 (simp only [push_cast, seval]; rfl)); (focus ((repeat' (first | rfl | (with_reducible first | apply fT_Tapi_GroupReply | apply fT_Tapi_MessageReply | apply fT_Tapi_Flaw | apply fT_Tapi_Spot | apply fT_Tapi_Reply | apply f_optN | apply f_optS | apply f_some | apply f_tup | apply f_agg | apply f_ptr | apply f_fn | apply dv_slice | apply sv_d | apply f_cons | apply fold_nil | apply fold_cons | apply fold_app | apply f_rowI | apply f_rowY | apply f_rowS | apply f_rowB | apply f_rowL) | (with_reducible apply f_byte; decide))); done)); (simp only [push_cast, seval]; rfl); (intro _; rfl); intro e hm) | ((with_reducible apply O_r); (simp only [push_cast, seval]; rfl); (first | exact trivial | omega)) | ((with_reducible apply O_ldV1r hm); (iterate 2 (simp only [push_cast, seval]; rfl)); (intro _; rfl); intro e hm) | ((with_reducible apply O_ldAVr hm); (iterate 2 (simp only [push_cast, seval]; rfl)); (intro _; rfl); intro e hm) | ((with_reducible apply O_strr hm); (iterate 2 (simp only [push_cast, seval]; rfl)); intro hm) | ((with_reducible apply O_and hm); (simp only [push_cast, seval]; rfl); rfl; intro v hm; rotate_left; intro v g hm) | ((with_reducible apply O_or hm); (simp only [push_cast, seval]; rfl); rfl; intro v hm; rotate_left; intro v g hm) | ((with_reducible apply W_condT); (focus (simp only [push_cast, seval]; done))) | ((with_reducible apply W_condF); (focus (simp only [push_cast, seval]; done))) | ((with_reducible apply O_cF hm); (simp only [push_cast, seval]; rfl); (first | apply spec_kit_IsRef _ | apply spec_reply_isVerdict _ | apply spec_slices_ContainsFunc_interchange_api_MessageReply_interchange_api_MessageReply _ _ _ _ (fun a0 r h => spec_reply_messageFault_1 a0 _ r h) | apply spec_slices_ContainsFunc_interchange_api_MessageReply_interchange_api_MessageReply _ _ _ _ (fun a0 r h => spec_kit_IsRef a0 r h) | apply spec_slices_ContainsFunc_interchange_api_MessageReply_interchange_api_MessageReply _ _ _ _ (fun a0 r h => spec_reply_isVerdict a0 r h) | apply spec_slices_ContainsFunc_interchange_api_MessageReply_interchange_api_MessageReply _ _ _ _ (fun a0 r h => spec_reply_flawsFault a0 r h) | apply spec_slices_ContainsFunc_interchange_api_MessageReply_interchange_api_MessageReply _ _ _ _ (fun a0 r h => spec_kit_IsName a0 r h) | apply spec_reply_flawsFault _ | apply spec_kit_IsName _ | apply spec_reply_messageFault_1 _ _ | apply spec_reply_together _ | apply spec_interchangeref2_IsReference _ | apply spec_interchangeref7_isVerdict _ | apply spec_interchangeref7_checkMessage _ _ | apply spec_interchangeref7_OfGroup _); (any_goals ((repeat' (first | rfl | (with_reducible first | apply fT_Tapi_GroupReply | apply fT_Tapi_MessageReply | apply fT_Tapi_Flaw | apply fT_Tapi_Spot | apply fT_Tapi_Reply | apply f_optN | apply f_optS | apply f_some | apply f_tup | apply f_agg | apply f_ptr | apply f_fn | apply dv_slice | apply sv_d | apply f_cons | apply fold_nil | apply fold_cons | apply fold_app | apply f_rowI | apply f_rowY | apply f_rowS | apply f_rowB | apply f_rowL) | (with_reducible apply f_byte; decide))); done)); intro x hm) | ((with_reducible apply O_clS hm); (simp only [push_cast, seval]; rfl); (focus (first | exact spec_kit_IsRef _ | exact spec_reply_isVerdict _ | exact spec_slices_ContainsFunc_interchange_api_MessageReply_interchange_api_MessageReply _ _ _ _ (fun a0 r h => spec_reply_messageFault_1 a0 _ r h) | exact spec_slices_ContainsFunc_interchange_api_MessageReply_interchange_api_MessageReply _ _ _ _ (fun a0 r h => spec_kit_IsRef a0 r h) | exact spec_slices_ContainsFunc_interchange_api_MessageReply_interchange_api_MessageReply _ _ _ _ (fun a0 r h => spec_reply_isVerdict a0 r h) | exact spec_slices_ContainsFunc_interchange_api_MessageReply_interchange_api_MessageReply _ _ _ _ (fun a0 r h => spec_reply_flawsFault a0 r h) | exact spec_slices_ContainsFunc_interchange_api_MessageReply_interchange_api_MessageReply _ _ _ _ (fun a0 r h => spec_kit_IsName a0 r h) | exact spec_reply_flawsFault _ | exact spec_kit_IsName _ | exact spec_reply_messageFault_1 _ _ | exact spec_reply_together _ | exact spec_interchangeref2_IsReference _ | exact spec_interchangeref7_isVerdict _ | exact spec_interchangeref7_checkMessage _ _ | exact spec_interchangeref7_OfGroup _)); (intro _; rfl); intro x hm) | ((with_reducible apply O_cvS hm); (iterate 2 (simp only [push_cast, seval]; rfl)); (focus (first | exact spec_kit_IsRef _ | exact spec_reply_isVerdict _ | exact spec_slices_ContainsFunc_interchange_api_MessageReply_interchange_api_MessageReply _ _ _ _ (fun a0 r h => spec_reply_messageFault_1 a0 _ r h) | exact spec_slices_ContainsFunc_interchange_api_MessageReply_interchange_api_MessageReply _ _ _ _ (fun a0 r h => spec_kit_IsRef a0 r h) | exact spec_slices_ContainsFunc_interchange_api_MessageReply_interchange_api_MessageReply _ _ _ _ (fun a0 r h => spec_reply_isVerdict a0 r h) | exact spec_slices_ContainsFunc_interchange_api_MessageReply_interchange_api_MessageReply _ _ _ _ (fun a0 r h => spec_reply_flawsFault a0 r h) | exact spec_slices_ContainsFunc_interchange_api_MessageReply_interchange_api_MessageReply _ _ _ _ (fun a0 r h => spec_kit_IsName a0 r h) | exact spec_reply_flawsFault _ | exact spec_kit_IsName _ | exact spec_reply_messageFault_1 _ _ | exact spec_reply_together _ | exact spec_interchangeref2_IsReference _ | exact spec_interchangeref7_isVerdict _ | exact spec_interchangeref7_checkMessage _ _ | exact spec_interchangeref7_OfGroup _)); intro x hm) | ((with_reducible apply O_w); (simp only [push_cast, seval]; rfl); (first | exact trivial | omega)) | ((with_reducible apply O_appL hm (row := rowI)); (iterate 5 (simp only [push_cast, seval]; rfl)); (focus ((repeat' (first | rfl | (with_reducible first | apply fT_Tapi_GroupReply | apply fT_Tapi_MessageReply | apply fT_Tapi_Flaw | apply fT_Tapi_Spot | apply fT_Tapi_Reply | apply f_optN | apply f_optS | apply f_some | apply f_tup | apply f_agg | apply f_ptr | apply f_fn | apply dv_slice | apply sv_d | apply f_cons | apply fold_nil | apply fold_cons | apply fold_app | apply f_rowI | apply f_rowY | apply f_rowS | apply f_rowB | apply f_rowL) | (with_reducible apply f_byte; decide))); done)); (focus ((repeat' (first | rfl | (with_reducible first | apply fT_Tapi_GroupReply | apply fT_Tapi_MessageReply | apply fT_Tapi_Flaw | apply fT_Tapi_Spot | apply fT_Tapi_Reply | apply f_optN | apply f_optS | apply f_some | apply f_tup | apply f_agg | apply f_ptr | apply f_fn | apply dv_slice | apply sv_d | apply f_cons | apply fold_nil | apply fold_cons | apply fold_app | apply f_rowI | apply f_rowY | apply f_rowS | apply f_rowB | apply f_rowL) | (with_reducible apply f_byte; decide))); done)); rfl; decide; (intro _; rfl); intro hm) | ((with_reducible apply O_appV hm); (iterate 4 (simp only [push_cast, seval]; rfl)); (focus ((repeat' (first | rfl | (with_reducible first | apply fT_Tapi_GroupReply | apply fT_Tapi_MessageReply | apply fT_Tapi_Flaw | apply fT_Tapi_Spot | apply fT_Tapi_Reply | apply f_optN | apply f_optS | apply f_some | apply f_tup | apply f_agg | apply f_ptr | apply f_fn | apply dv_slice | apply sv_d | apply f_cons | apply fold_nil | apply fold_cons | apply fold_app | apply f_rowI | apply f_rowY | apply f_rowS | apply f_rowB | apply f_rowL) | (with_reducible apply f_byte; decide))); done)); decide; (intro _; rfl); intro hm) | ((with_reducible apply O_appN hm); (focus (simp only [push_cast, seval]; done)); (iterate 2 (simp only [push_cast, seval]; rfl)); (focus ((repeat' (first | rfl | (with_reducible first | apply fT_Tapi_GroupReply | apply fT_Tapi_MessageReply | apply fT_Tapi_Flaw | apply fT_Tapi_Spot | apply fT_Tapi_Reply | apply f_optN | apply f_optS | apply f_some | apply f_tup | apply f_agg | apply f_ptr | apply f_fn | apply dv_slice | apply sv_d | apply f_cons | apply fold_nil | apply fold_cons | apply fold_app | apply f_rowI | apply f_rowY | apply f_rowS | apply f_rowB | apply f_rowL) | (with_reducible apply f_byte; decide))); done)); decide; (intro _; rfl); intro hm) | ((with_reducible apply O_stVA hm); (iterate 4 (simp only [push_cast, seval]; rfl)); (focus ((repeat' (first | rfl | (with_reducible first | apply fT_Tapi_GroupReply | apply fT_Tapi_MessageReply | apply fT_Tapi_Flaw | apply fT_Tapi_Spot | apply fT_Tapi_Reply | apply f_optN | apply f_optS | apply f_some | apply f_tup | apply f_agg | apply f_ptr | apply f_fn | apply dv_slice | apply sv_d | apply f_cons | apply fold_nil | apply fold_cons | apply fold_app | apply f_rowI | apply f_rowY | apply f_rowS | apply f_rowB | apply f_rowL) | (with_reducible apply f_byte; decide))); done)); decide; (intro _; rfl); intro e hm) | ((with_reducible apply O_stV hm); (iterate 3 (simp only [push_cast, seval]; rfl)); rfl; (intro _; rfl); rfl; (focus (intro a; simp only [push_cast, seval]; rfl)); (focus (intro a; (repeat' (first | rfl | with_reducible apply eT_Tapi_GroupReply | with_reducible apply eT_Tapi_MessageReply | with_reducible apply eT_Tapi_Flaw | with_reducible apply eT_Tapi_Spot | with_reducible apply eT_Tapi_Reply)); done)); intro e hm) | ((with_reducible apply S_condB hm); (simp only [push_cast, seval]; rfl); intro hm; rotate_left; intro hm) | ((with_reducible apply K_endS hm); (focus (simp only [resOf, resL, RV.get, push_cast, seval]; rfl)); (focus ((repeat' (first | rfl | (with_reducible first | apply fT_Tapi_GroupReply | apply fT_Tapi_MessageReply | apply fT_Tapi_Flaw | apply fT_Tapi_Spot | apply fT_Tapi_Reply | apply f_optN | apply f_optS | apply f_some | apply f_tup | apply f_agg | apply f_ptr | apply f_fn | apply dv_slice | apply sv_d | apply f_cons | apply fold_nil | apply fold_cons | apply fold_app | apply f_rowI | apply f_rowY | apply f_rowS | apply f_rowB | apply f_rowL) | (with_reducible apply f_byte; decide))); done))) | ((with_reducible apply K_bool hm); (simp only [push_cast, seval]; rfl)) | ((with_reducible apply K_leave hm); intro r hm) | ((with_reducible apply K_leaveR hm); intro r hm) | ((apply S_loopY (b := 1) (X := sc_reply_messageFault_B1) (x := sc_reply_messageFault_L1) rfl (fun (c : SV × SV × SV × SV) (s : Int) => st [(2, c.1), (5, c.2.1), (55, c.2.2.1), (56, c.2.2.2), (57, .d (.int .i64 s))] []) (c := (_, _, _, _)) (s0 := _) hm); (focus (first | (dsimp only; done) | (dsimp only; rfl) | rfl)); (with_reducible refine Then.mk ?_ ?_)) | ((apply S_loopY (b := 0) (X := sc_reply_verdictOfGroup_B1) (x := sc_reply_verdictOfGroup_L1) rfl (fun (c : SV × SV) (s : (List Int) × Int) => st [(3, .vec 3), (7, c.1), (8, c.2), (9, .d (.int .i64 s.2))] [(3, .vec 3 1 (vrow rowI s.1))]) (c := (_, _)) (s0 := (_, _)) hm); (focus (first | (dsimp only; done) | (dsimp only; rfl) | rfl)); (with_reducible refine Then.mk ?_ ?_); apply Imp.trans; (focus (apply imp_vecnil (slot := 3) (id := 3) (e := 3) (sz := 1); (focus (simp only [push_cast, seval]; done))))) | ((apply S_loopY (b := 0) (X := sc_reply_verdictOf_B1) (x := sc_reply_verdictOf_L1) rfl (fun (c : SV × SV) (s : (List Int) × Int) => st [(3, .vec 3), (7, c.1), (8, c.2), (9, .d (.int .i64 s.2))] [(3, .vec 3 1 (vrow rowI s.1))]) (c := (_, _)) (s0 := (_, _)) hm); (focus (first | (dsimp only; done) | (dsimp only; rfl) | rfl)); (with_reducible refine Then.mk ?_ ?_); apply Imp.trans; (focus (apply imp_vecnil (slot := 3) (id := 3) (e := 3) (sz := 1); (focus (simp only [push_cast, seval]; done))))) | ((apply S_loopY (b := 0) (X := sc_interchangeref7_checkGroup_B1) (x := sc_interchangeref7_checkGroup_L1) rfl (fun (c : SV × SV × Ch) (s : Int) => st [(0, c.1), (1, c.2.1), (5, .ref 5 0), (6, .d (.int .i64 s))] [(5, c.2.2)]) (c := (_, _, _)) (s0 := _) hm); (focus (first | (dsimp only; done) | (dsimp only; rfl) | rfl)); (with_reducible refine Then.mk ?_ ?_)) | ((apply S_loopY (b := 2) (X := sc_interchangeref7_checkGroup_B2) (x := sc_interchangeref7_checkGroup_L2) rfl (fun (c : Ch) (s : Int) => st [(5, .ref 5 0), (7, .d (.int .i64 s))] [(5, c)]) (c := _) (s0 := _) hm); (focus (first | (dsimp only; done) | (dsimp only; rfl) | rfl)); (with_reducible refine Then.mk ?_ ?_)) | ((apply K_next (s' := (_, _)) hm); (focus (first | (dsimp only; done) | (dsimp only; rfl) | rfl))) | ((apply K_brk (s' := (_, _)) hm); (focus (first | (dsimp only; done) | (dsimp only; rfl) | rfl))) | ((apply K_next (s' := _) hm); (focus (first | (dsimp only; done) | (dsimp only; rfl) | rfl))) | ((apply K_brk (s' := _) hm); (focus (first | (dsimp only; done) | (dsimp only; rfl) | rfl))) | (((with_reducible apply K_brkN hm); (focus decide); intro r hm)) | (((with_reducible apply K_brkR hm); intro r hm)) | (((with_reducible apply LoopB.of); (focus (first | (dsimp only; done) | (dsimp only; rfl) | rfl)); (focus ((intro _; repeat' (first | with_reducible exact impC_end | with_reducible exact impC_endF | with_reducible refine impC_seq ?_ | with_reducible refine impC_block ?_ | ((with_reducible refine impC_rnd ?_); intro _) | ((with_reducible refine impC_brk ?_); intro _))))); (intro s o hm; first | unfold sc_reply_messageFault_L1 | unfold sc_reply_verdictOfGroup_L1 | unfold sc_reply_verdictOf_L1 | unfold sc_interchangeref7_checkGroup_L1 | unfold sc_interchangeref7_checkGroup_L2); rotate_left; intro s hm)) | (((apply imp_stT; (repeat' (first | with_reducible exact keepT_nil | with_reducible exact keepC_nil | with_reducible apply keepT_cons | with_reducible apply keepC_cons | ((with_reducible apply svle_eq); (focus (first | (simp only [push_cast, seval]; rfl) | rfl)); (focus ((repeat' (first | rfl | (with_reducible first | apply fT_Tapi_GroupReply | apply fT_Tapi_MessageReply | apply fT_Tapi_Flaw | apply fT_Tapi_Spot | apply fT_Tapi_Reply | apply f_optN | apply f_optS | apply f_some | apply f_tup | apply f_agg | apply f_ptr | apply f_fn | apply dv_slice | apply sv_d | apply f_cons | apply fold_nil | apply fold_cons | apply fold_app | apply f_rowI | apply f_rowY | apply f_rowS | apply f_rowB | apply f_rowL) | (with_reducible apply f_byte; decide))); done))) | ((with_reducible apply svle_td); (focus (first | (simp only [push_cast, seval]; rfl) | rfl)); (focus (first | (simp only [push_cast, seval]; rfl) | rfl)); (focus ((repeat' (first | rfl | (with_reducible first | apply fT_Tapi_GroupReply | apply fT_Tapi_MessageReply | apply fT_Tapi_Flaw | apply fT_Tapi_Spot | apply fT_Tapi_Reply | apply f_optN | apply f_optS | apply f_some | apply f_tup | apply f_agg | apply f_ptr | apply f_fn | apply dv_slice | apply sv_d | apply f_cons | apply fold_nil | apply fold_cons | apply fold_app | apply f_rowI | apply f_rowY | apply f_rowS | apply f_rowB | apply f_rowL) | (with_reducible apply f_byte; decide))); done))) | ((with_reducible apply chle_eq); (focus (first | (simp only [push_cast, seval]; rfl) | rfl)); (first | with_reducible exact chle_rfl rfl | with_reducible exact chle_map0 | with_reducible apply chle_vec | with_reducible apply chle_box)) | (with_reducible first | apply cT_Tapi_GroupReply | apply cT_Tapi_MessageReply | apply cT_Tapi_Flaw | apply cT_Tapi_Spot | apply cT_Tapi_Reply | apply r_shS | apply r_shI | apply r_rflO | apply r_oneO | apply r_appO | apply r_nilO | apply c_ownN | apply c_ownL | apply vc_rfl | apply vc_nil | apply vc_cons | apply r_rfl | apply r_rows | apply r_nil | apply r_app | apply r_cons | apply c_rowI | apply c_rowY | apply c_rowS | apply c_rowB | apply c_rowL))); done)))))
noncomputable def m_reply_messageFault (x0 : Tapi_MessageReply) (x1 : List Tapi_MessageReply) : Option (Int) := (sims_G5_3_0.1 x0 x1).1
theorem spec_reply_messageFault (x0 : Tapi_MessageReply) (x1 : List Tapi_MessageReply) : ∀ r, m_reply_messageFault x0 x1 = some r → PureSpec Tryd.prog 90 [.agg (rTapi_MessageReply x0), .slice (List.map rTapi_MessageReply x1)] (.int .i64 r) := (sims_G5_3_0.1 x0 x1).2
noncomputable def m_reply_verdictOfGroup (x0 : Tapi_GroupReply) : Option (Int) := (sims_G5_3_0.2.1 x0).1
theorem spec_reply_verdictOfGroup (x0 : Tapi_GroupReply) : ∀ r, m_reply_verdictOfGroup x0 = some r → PureSpec Tryd.prog 91 [.agg (rTapi_GroupReply x0)] (.int .i64 r) := (sims_G5_3_0.2.1 x0).2
noncomputable def m_reply_verdictOf (x0 : Tapi_Reply) : Option (Int) := (sims_G5_3_0.2.2.1 x0).1
theorem spec_reply_verdictOf (x0 : Tapi_Reply) : ∀ r, m_reply_verdictOf x0 = some r → PureSpec Tryd.prog 47 [.agg (rTapi_Reply x0)] (.int .i64 r) := (sims_G5_3_0.2.2.1 x0).2
noncomputable def m_interchangeref7_checkGroup (x0 : List Tapi_GroupReply) (x1 : Int) : Option (Int) := (sims_G5_3_0.2.2.2 x0 x1).1
theorem spec_interchangeref7_checkGroup (x0 : List Tapi_GroupReply) (x1 : Int) : ∀ r, m_interchangeref7_checkGroup x0 x1 = some r → PureSpec Tryd.prog 50 [.slice (List.map rTapi_GroupReply x0), .int .i64 x1] (.int .i64 r) := (sims_G5_3_0.2.2.2 x0 x1).2

def sc_reply_groupFault_L1 : SC :=
  (.seq (.reg [.r 26 (.bin .lss (.t 25) (.t 24))])
  (.seq (.cond (.t 26)
    .skip
    (.exit 1))
  (.seq (.block 2 (.seq (.reg [.r 27 (.mv (.t 25)),
       .r 28 (.idx 5 (.t 23) (.t 25)),
       .o 29 (.ldA 5 (.t 28)),
       .w 6 (.boxM (.c (.agg [.d (.str []), .d (.int .i64 0), .d (.bool false), .nils, .nils]))),
       .r 5 (.mv (.t 27)),
       .w 0 (.st 5 (.t 6) (.t 29))])
    (.seq (.regD [.r 30 (.ldA 5 (.t 6)),
       .r 31 (.fld 2 (.t 2)),
       .r 32 (.ld1 (.t 31)),
       .r 33 (.mv (.t 5)),
       .r 34 (.slc 5 (.t 32) none (some (.t 33))),
       .c 35 (.f 90) [.t 30, .t 34],
       .r 7 (.mv (.t 35))])
    (.seq (.reg [.r 36 (.mv (.t 7)),
       .r 37 (.bin .neq (.t 36) (.c (.d (.int .i64 0))))])
    (.cond (.t 37)
      (.seq (.reg [.r 38 (.mv (.t 7)),
         .r 4 (.mv (.t 38))])
      .ret)
      .skip)))))
  (.reg [.r 39 (.bin .add (.t 25) (.c (.d (.int .i64 1)))),
     .r 25 (.mv (.t 39))]))))
def sc_reply_groupFault_B1 : SC := .block 1 (.loop sc_reply_groupFault_L1)
/-- interchange/reply.groupFault -/
def sc_reply_groupFault : SC :=
  (.seq (.reg [.r 2 (.boxI (.t 0)),
     .r 4 (.mv (.c (.d (.int .i64 0))))])
  (.seq (.block 0 (.seq (.reg [.r 9 (.fld 0 (.t 2)),
       .o 10 (.ld1 (.t 9)),
       .c 11 (.f 44) [.t 10],
       .r 12 (.not (.t 11)),
       .r 8 (.mv (.t 12))])
    (.cond (.t 8)
      (.seq (.reg [.r 4 (.mv (.c (.d (.int .i64 3))))])
      .ret)
      (.seq (.reg [.r 14 (.fld 1 (.t 2)),
         .o 15 (.ld1 (.t 14)),
         .c 16 (.f 45) [.t 15],
         .r 17 (.not (.t 16)),
         .r 13 (.mv (.t 17))])
      (.cond (.t 13)
        (.seq (.reg [.r 4 (.mv (.c (.d (.int .i64 4))))])
        .ret)
        (.seq (.reg [.r 19 (.mv (.t 1)),
           .r 20 (.mkfn 89 [.t 2]),
           .c 21 (.f 88) [.t 19, .t 20],
           .r 18 (.mv (.t 21))])
        (.cond (.t 18)
          (.seq (.reg [.r 4 (.mv (.c (.d (.int .i64 7))))])
          .ret)
          .skip)))))))
  (.seq (.seq (.reg [.r 22 (.fld 2 (.t 2)),
     .o 23 (.ld1 (.t 22)),
     .r 24 (.len (.t 23)),
     .r 25 (.mv (.c (.d (.int .i64 0))))])
  sc_reply_groupFault_B1)
  (.seq (.seq (.regD [.r 40 (.ldA 3 (.t 2)),
     .c 41 (.f 91) [.t 40],
     .r 42 (.fld 1 (.t 2)),
     .r 43 (.ld1 (.t 42)),
     .r 44 (.bin .neq (.t 41) (.t 43))])
  (.cond (.t 44)
    (.seq (.reg [.r 4 (.mv (.c (.d (.int .i64 12))))])
    .ret)
    .skip))
  (.seq (.reg [.r 4 (.mv (.c (.d (.int .i64 0))))])
  .ret)))))
theorem fit_reply_groupFault : fits Tryd.prog 46 Tryd.f46 sc_reply_groupFault [.t 4] 2 = true := by kernel_rfl

def sc_interchangeref7_CheckReply_L1 : SC :=
  (.seq (.seq (.reg [.r 18 (.mv (.t 4)),
     .r 19 (.fld 2 (.t 1)),
     .o 20 (.ld1 (.t 19)),
     .r 21 (.len (.t 20)),
     .r 22 (.bin .lss (.t 18) (.t 21))])
  (.cond (.t 22)
    .skip
    (.exit 0)))
  (.seq (.block 1 (.seq (.seq (.reg [.r 25 (.fld 2 (.t 1)),
       .o 26 (.ld1 (.t 25)),
       .r 27 (.mv (.t 4)),
       .c 28 (.f 50) [.t 26, .t 27],
       .r 5 (.mv (.t 28))])
    (.seq (.reg [.r 29 (.mv (.t 5)),
       .r 30 (.bin .neq (.t 29) (.c (.d (.int .i64 0))))])
    (.cond (.t 30)
      (.seq (.reg [.r 31 (.mv (.t 5)),
         .r 2 (.mv (.t 31))])
      .ret)
      .skip)))
    (.reg [.r 32 (.mv (.t 3)),
       .r 33 (.fld 2 (.t 1)),
       .o 34 (.ld1 (.t 33)),
       .r 35 (.mv (.t 4)),
       .r 36 (.idx 3 (.t 34) (.t 35)),
       .r 37 (.fld 2 (.t 36)),
       .o 38 (.ld1 (.t 37)),
       .r 39 (.len (.t 38)),
       .r 40 (.bin .add (.t 32) (.t 39)),
       .r 3 (.mv (.t 40))])))
  (.reg [.r 23 (.mv (.t 4)),
     .r 24 (.bin .add (.t 23) (.c (.d (.int .i64 1)))),
     .r 4 (.mv (.t 24))])))
def sc_interchangeref7_CheckReply_B1 : SC := .block 0 (.loop sc_interchangeref7_CheckReply_L1)
/-- interchange/interchangeref7.CheckReply -/
def sc_interchangeref7_CheckReply : SC :=
  (.seq (.reg [.r 1 (.boxI (.t 0)),
     .r 2 (.mv (.c (.d (.int .i64 0))))])
  (.seq (.seq (.reg [.r 6 (.fld 0 (.t 1)),
     .o 7 (.ld1 (.t 6)),
     .c 8 (.f 48) [.t 7],
     .r 9 (.not (.t 8))])
  (.cond (.t 9)
    (.seq (.reg [.r 2 (.mv (.c (.d (.int .i64 3))))])
    .ret)
    .skip))
  (.seq (.seq (.reg [.r 10 (.fld 1 (.t 1)),
     .o 11 (.ld1 (.t 10)),
     .c 12 (.f 49) [.t 11],
     .r 13 (.not (.t 12))])
  (.cond (.t 13)
    (.seq (.reg [.r 2 (.mv (.c (.d (.int .i64 4))))])
    .ret)
    .skip))
  (.seq (.seq (.reg [.r 14 (.fld 2 (.t 1)),
     .o 15 (.ld1 (.t 14)),
     .r 16 (.len (.t 15)),
     .r 17 (.bin .gtr (.t 16) (.c (.d (.int .i64 50))))])
  (.cond (.t 17)
    (.seq (.reg [.r 2 (.mv (.c (.d (.int .i64 2))))])
    .ret)
    .skip))
  (.seq (.reg [.r 3 (.mv (.c (.d (.int .i64 0))))])
  (.seq (.seq (.reg [.r 4 (.mv (.c (.d (.int .i64 0))))])
  sc_interchangeref7_CheckReply_B1)
  (.seq (.seq (.reg [.r 41 (.mv (.t 3)),
     .r 42 (.bin .gtr (.t 41) (.c (.d (.int .i64 200))))])
  (.cond (.t 42)
    (.seq (.reg [.r 2 (.mv (.c (.d (.int .i64 2))))])
    .ret)
    .skip))
  (.seq (.seq (.regD [.r 43 (.fld 1 (.t 1)),
     .r 44 (.ld1 (.t 43)),
     .r 45 (.ldA 3 (.t 1)),
     .c 46 (.f 51) [.t 45],
     .r 47 (.bin .neq (.t 44) (.t 46))])
  (.cond (.t 47)
    (.seq (.reg [.r 2 (.mv (.c (.d (.int .i64 12))))])
    .ret)
    .skip))
  (.seq (.reg [.r 2 (.mv (.c (.d (.int .i64 0))))])
  .ret)))))))))
theorem fit_interchangeref7_CheckReply : fits Tryd.prog 13 Tryd.f13 sc_interchangeref7_CheckReply [.t 2] 1 = true := by kernel_rfl

set_option maxRecDepth 100000 in
set_option maxHeartbeats 40000000 in
noncomputable def sims_G5_4_0 : (∀ (x0 : Tapi_GroupReply) (x1 : List Tapi_GroupReply), {m : Option (Int) // ∀ r, m = some r → PureSpec Tryd.prog 46 [.agg (rTapi_GroupReply x0), .slice (List.map rTapi_GroupReply x1)] (.int .i64 r)}) × (∀ (x0 : Tapi_Reply), {m : Option (Int) // ∀ r, m = some r → PureSpec Tryd.prog 13 [.agg (rTapi_Reply x0)] (.int .i64 r)}) := by
  refine ⟨?g0, ?g1⟩
  case' g0 => (intro x0 x1; apply Subtype.mk; intro r hm; apply pure_walk Tryd.func46 fit_reply_groupFault; unfold sc_reply_groupFault)
  case' g1 => (intro x0; apply Subtype.mk; intro r hm; apply pure_walk Tryd.func13 fit_interchangeref7_CheckReply; unfold sc_interchangeref7_CheckReply)
  all_goals (repeat' (first | with_reducible refine W_seq ?_ | with_reducible refine W_reg ?_ | with_reducible refine W_regD ?_ | with_reducible refine W_block ?_ | with_reducible refine W_skip ?_ | with_reducible refine W_ret ?_ | with_reducible refine W_exit ?_ | with_reducible refine O_nil ?_ | with_reducible refine K_seq ?_ | with_reducible refine K_seqE ?_ | with_reducible refine K_seqR ?_ | with_reducible refine K_block ?_ | with_reducible refine K_blockR ?_ | with_reducible refine K_blockE ?_ | ((with_reducible apply K_blockN); decide) | with_reducible refine O_o2r ?_ | ((with_reducible apply O_idxr hm); (iterate 2 (simp only [push_cast, seval]; rfl)); (intro _; rfl); intro e hm) | ((with_reducible apply O_idxVr hm); (iterate 3 (simp only [push_cast, seval]; rfl)); intro e hm) | ((with_reducible apply O_slcr hm); (iterate 3 (simp only [push_cast, seval]; rfl)); (intro _; rfl); intro e hm) | ((with_reducible apply O_r); (simp only [push_cast, seval]; rfl); (first | exact trivial | omega)) | ((with_reducible apply O_ldV1r hm); (iterate 2 (simp only [push_cast, seval]; rfl)); (intro _; rfl); intro e hm) | ((with_reducible apply O_ldAVr hm); (iterate 2 (simp only [push_cast, seval]; rfl)); (intro _; rfl); intro e hm) | ((with_reducible apply O_strr hm); (iterate 2 (simp only [push_cast, seval]; rfl)); intro hm) | ((with_reducible apply W_condT); (focus (simp only [push_cast, seval]; done))) | ((with_reducible apply W_condF); (focus (simp only [push_cast, seval]; done))) | ((with_reducible apply O_cF hm); (simp only [push_cast, seval]; rfl); (first | apply spec_kit_IsRef _ | apply spec_reply_isVerdict _ | apply spec_slices_ContainsFunc_interchange_api_GroupReply_interchange_api_GroupReply _ _ _ _ (fun a0 r h => spec_reply_groupFault_1 a0 _ r h) | apply spec_slices_ContainsFunc_interchange_api_GroupReply_interchange_api_GroupReply _ _ _ _ (fun a0 r h => spec_kit_IsRef a0 r h) | apply spec_slices_ContainsFunc_interchange_api_GroupReply_interchange_api_GroupReply _ _ _ _ (fun a0 r h => spec_reply_isVerdict a0 r h) | apply spec_slices_ContainsFunc_interchange_api_GroupReply_interchange_api_GroupReply _ _ _ _ (fun a0 a1 r h => spec_reply_messageFault a0 a1 r h) | apply spec_slices_ContainsFunc_interchange_api_GroupReply_interchange_api_GroupReply _ _ _ _ (fun a0 r h => spec_reply_verdictOfGroup a0 r h) | apply spec_reply_messageFault _ _ | apply spec_reply_verdictOfGroup _ | apply spec_reply_groupFault_1 _ _ | apply spec_interchangeref2_IsReference _ | apply spec_interchangeref7_isVerdict _ | apply spec_interchangeref7_checkGroup _ _ | apply spec_interchangeref7_OfAll _); (any_goals ((repeat' (first | rfl | (with_reducible first | apply fT_Tapi_GroupReply | apply fT_Tapi_MessageReply | apply fT_Tapi_Flaw | apply fT_Tapi_Spot | apply fT_Tapi_Reply | apply f_optN | apply f_optS | apply f_some | apply f_tup | apply f_agg | apply f_ptr | apply f_fn | apply dv_slice | apply sv_d | apply f_cons | apply fold_nil | apply fold_cons | apply fold_app | apply f_rowI | apply f_rowY | apply f_rowS | apply f_rowB | apply f_rowL) | (with_reducible apply f_byte; decide))); done)); intro x hm) | ((with_reducible apply O_cvS hm); (iterate 2 (simp only [push_cast, seval]; rfl)); (focus (first | exact spec_kit_IsRef _ | exact spec_reply_isVerdict _ | exact spec_slices_ContainsFunc_interchange_api_GroupReply_interchange_api_GroupReply _ _ _ _ (fun a0 r h => spec_reply_groupFault_1 a0 _ r h) | exact spec_slices_ContainsFunc_interchange_api_GroupReply_interchange_api_GroupReply _ _ _ _ (fun a0 r h => spec_kit_IsRef a0 r h) | exact spec_slices_ContainsFunc_interchange_api_GroupReply_interchange_api_GroupReply _ _ _ _ (fun a0 r h => spec_reply_isVerdict a0 r h) | exact spec_slices_ContainsFunc_interchange_api_GroupReply_interchange_api_GroupReply _ _ _ _ (fun a0 a1 r h => spec_reply_messageFault a0 a1 r h) | exact spec_slices_ContainsFunc_interchange_api_GroupReply_interchange_api_GroupReply _ _ _ _ (fun a0 r h => spec_reply_verdictOfGroup a0 r h) | exact spec_reply_messageFault _ _ | exact spec_reply_verdictOfGroup _ | exact spec_reply_groupFault_1 _ _ | exact spec_interchangeref2_IsReference _ | exact spec_interchangeref7_isVerdict _ | exact spec_interchangeref7_checkGroup _ _ | exact spec_interchangeref7_OfAll _)); intro x hm) | ((with_reducible apply O_w); (simp only [push_cast, seval]; rfl); (first | exact trivial | omega)) | ((with_reducible apply O_stVA hm); (iterate 4 (simp only [push_cast, seval]; rfl)); (focus ((repeat' (first | rfl | (with_reducible first | apply fT_Tapi_GroupReply | apply fT_Tapi_MessageReply | apply fT_Tapi_Flaw | apply fT_Tapi_Spot | apply fT_Tapi_Reply | apply f_optN | apply f_optS | apply f_some | apply f_tup | apply f_agg | apply f_ptr | apply f_fn | apply dv_slice | apply sv_d | apply f_cons | apply fold_nil | apply fold_cons | apply fold_app | apply f_rowI | apply f_rowY | apply f_rowS | apply f_rowB | apply f_rowL) | (with_reducible apply f_byte; decide))); done)); decide; (intro _; rfl); intro e hm) | ((with_reducible apply S_condB hm); (simp only [push_cast, seval]; rfl); intro hm; rotate_left; intro hm) | ((with_reducible apply K_endS hm); (focus (simp only [resOf, resL, RV.get, push_cast, seval]; rfl)); (focus ((repeat' (first | rfl | (with_reducible first | apply fT_Tapi_GroupReply | apply fT_Tapi_MessageReply | apply fT_Tapi_Flaw | apply fT_Tapi_Spot | apply fT_Tapi_Reply | apply f_optN | apply f_optS | apply f_some | apply f_tup | apply f_agg | apply f_ptr | apply f_fn | apply dv_slice | apply sv_d | apply f_cons | apply fold_nil | apply fold_cons | apply fold_app | apply f_rowI | apply f_rowY | apply f_rowS | apply f_rowB | apply f_rowL) | (with_reducible apply f_byte; decide))); done))) | ((with_reducible apply K_leave hm); intro r hm) | ((with_reducible apply K_leaveR hm); intro r hm) | ((apply S_loopY (b := 1) (X := sc_reply_groupFault_B1) (x := sc_reply_groupFault_L1) rfl (fun (c : SV × SV × SV) (s : Int) => st [(2, c.1), (23, c.2.1), (24, c.2.2), (25, .d (.int .i64 s))] []) (c := (_, _, _)) (s0 := _) hm); (focus (first | (dsimp only; done) | (dsimp only; rfl) | rfl)); (with_reducible refine Then.mk ?_ ?_)) | ((apply S_loopY (b := 0) (X := sc_interchangeref7_CheckReply_B1) (x := sc_interchangeref7_CheckReply_L1) rfl (fun (c : SV) (s : Int × Int) => st [(1, c), (3, .d (.int .i64 s.1)), (4, .d (.int .i64 s.2))] []) (c := _) (s0 := (_, _)) hm); (focus (first | (dsimp only; done) | (dsimp only; rfl) | rfl)); (with_reducible refine Then.mk ?_ ?_)) | ((apply K_next (s' := (_, _)) hm); (focus (first | (dsimp only; done) | (dsimp only; rfl) | rfl))) | ((apply K_brk (s' := (_, _)) hm); (focus (first | (dsimp only; done) | (dsimp only; rfl) | rfl))) | ((apply K_next (s' := _) hm); (focus (first | (dsimp only; done) | (dsimp only; rfl) | rfl))) | ((apply K_brk (s' := _) hm); (focus (first | (dsimp only; done) | (dsimp only; rfl) | rfl))) | (((with_reducible apply K_brkN hm); (focus decide); intro r hm)) | (((with_reducible apply K_brkR hm); intro r hm)) | (((with_reducible apply LoopB.of); (focus (first | (dsimp only; done) | (dsimp only; rfl) | rfl)); (focus ((intro _; repeat' (first | with_reducible exact impC_end | with_reducible exact impC_endF | with_reducible refine impC_seq ?_ | with_reducible refine impC_block ?_ | ((with_reducible refine impC_rnd ?_); intro _) | ((with_reducible refine impC_brk ?_); intro _))))); (intro s o hm; first | unfold sc_reply_groupFault_L1 | unfold sc_interchangeref7_CheckReply_L1); rotate_left; intro s hm)) | (((apply imp_stT; (repeat' (first | with_reducible exact keepT_nil | with_reducible exact keepC_nil | with_reducible apply keepT_cons | with_reducible apply keepC_cons | ((with_reducible apply svle_eq); (focus (first | (simp only [push_cast, seval]; rfl) | rfl)); (focus ((repeat' (first | rfl | (with_reducible first | apply fT_Tapi_GroupReply | apply fT_Tapi_MessageReply | apply fT_Tapi_Flaw | apply fT_Tapi_Spot | apply fT_Tapi_Reply | apply f_optN | apply f_optS | apply f_some | apply f_tup | apply f_agg | apply f_ptr | apply f_fn | apply dv_slice | apply sv_d | apply f_cons | apply fold_nil | apply fold_cons | apply fold_app | apply f_rowI | apply f_rowY | apply f_rowS | apply f_rowB | apply f_rowL) | (with_reducible apply f_byte; decide))); done))) | ((with_reducible apply svle_td); (focus (first | (simp only [push_cast, seval]; rfl) | rfl)); (focus (first | (simp only [push_cast, seval]; rfl) | rfl)); (focus ((repeat' (first | rfl | (with_reducible first | apply fT_Tapi_GroupReply | apply fT_Tapi_MessageReply | apply fT_Tapi_Flaw | apply fT_Tapi_Spot | apply fT_Tapi_Reply | apply f_optN | apply f_optS | apply f_some | apply f_tup | apply f_agg | apply f_ptr | apply f_fn | apply dv_slice | apply sv_d | apply f_cons | apply fold_nil | apply fold_cons | apply fold_app | apply f_rowI | apply f_rowY | apply f_rowS | apply f_rowB | apply f_rowL) | (with_reducible apply f_byte; decide))); done))) | ((with_reducible apply chle_eq); (focus (first | (simp only [push_cast, seval]; rfl) | rfl)); (first | with_reducible exact chle_rfl rfl | with_reducible exact chle_map0 | with_reducible apply chle_vec | with_reducible apply chle_box)) | (with_reducible first | apply cT_Tapi_GroupReply | apply cT_Tapi_MessageReply | apply cT_Tapi_Flaw | apply cT_Tapi_Spot | apply cT_Tapi_Reply | apply r_shS | apply r_shI | apply r_rflO | apply r_oneO | apply r_appO | apply r_nilO | apply c_ownN | apply c_ownL | apply vc_rfl | apply vc_nil | apply vc_cons | apply r_rfl | apply r_rows | apply r_nil | apply r_app | apply r_cons | apply c_rowI | apply c_rowY | apply c_rowS | apply c_rowB | apply c_rowL))); done)))))
noncomputable def m_reply_groupFault (x0 : Tapi_GroupReply) (x1 : List Tapi_GroupReply) : Option (Int) := (sims_G5_4_0.1 x0 x1).1
theorem spec_reply_groupFault (x0 : Tapi_GroupReply) (x1 : List Tapi_GroupReply) : ∀ r, m_reply_groupFault x0 x1 = some r → PureSpec Tryd.prog 46 [.agg (rTapi_GroupReply x0), .slice (List.map rTapi_GroupReply x1)] (.int .i64 r) := (sims_G5_4_0.1 x0 x1).2
noncomputable def m_interchangeref7_CheckReply (x0 : Tapi_Reply) : Option (Int) := (sims_G5_4_0.2 x0).1
theorem spec_interchangeref7_CheckReply (x0 : Tapi_Reply) : ∀ r, m_interchangeref7_CheckReply x0 = some r → PureSpec Tryd.prog 13 [.agg (rTapi_Reply x0)] (.int .i64 r) := (sims_G5_4_0.2 x0).2

def sc_reply_CheckReply_L1 : SC :=
  (.seq (.reg [.r 26 (.bin .lss (.t 25) (.t 24))])
  (.seq (.cond (.t 26)
    .skip
    (.exit 1))
  (.seq (.block 2 (.seq (.reg [.r 27 (.mv (.t 25)),
       .r 28 (.idx 3 (.t 23) (.t 25)),
       .o 29 (.ldA 3 (.t 28)),
       .w 5 (.boxM (.c (.agg [.d (.str []), .d (.int .i64 0), .nils]))),
       .r 4 (.mv (.t 27)),
       .w 0 (.st 3 (.t 5) (.t 29))])
    (.seq (.seq (.regD [.r 30 (.ldA 3 (.t 5)),
       .r 31 (.fld 2 (.t 1)),
       .r 32 (.ld1 (.t 31)),
       .r 33 (.mv (.t 4)),
       .r 34 (.slc 3 (.t 32) none (some (.t 33))),
       .c 35 (.f 46) [.t 30, .t 34],
       .r 6 (.mv (.t 35))])
    (.seq (.reg [.r 36 (.mv (.t 6)),
       .r 37 (.bin .neq (.t 36) (.c (.d (.int .i64 0))))])
    (.cond (.t 37)
      (.seq (.reg [.r 38 (.mv (.t 6)),
         .r 2 (.mv (.t 38))])
      .ret)
      .skip)))
    (.reg [.r 39 (.mv (.t 3)),
       .r 40 (.fld 2 (.t 5)),
       .o 41 (.ld1 (.t 40)),
       .r 42 (.len (.t 41)),
       .r 43 (.bin .add (.t 39) (.t 42)),
       .r 3 (.mv (.t 43))]))))
  (.reg [.r 44 (.bin .add (.t 25) (.c (.d (.int .i64 1)))),
     .r 25 (.mv (.t 44))]))))
def sc_reply_CheckReply_B1 : SC := .block 1 (.loop sc_reply_CheckReply_L1)
/-- interchange/reply.CheckReply -/
def sc_reply_CheckReply : SC :=
  (.seq (.reg [.r 1 (.boxI (.t 0)),
     .r 2 (.mv (.c (.d (.int .i64 0))))])
  (.seq (.block 0 (.seq (.reg [.r 8 (.fld 0 (.t 1)),
       .o 9 (.ld1 (.t 8)),
       .c 10 (.f 44) [.t 9],
       .r 11 (.not (.t 10)),
       .r 7 (.mv (.t 11))])
    (.cond (.t 7)
      (.seq (.reg [.r 2 (.mv (.c (.d (.int .i64 3))))])
      .ret)
      (.seq (.reg [.r 13 (.fld 1 (.t 1)),
         .o 14 (.ld1 (.t 13)),
         .c 15 (.f 45) [.t 14],
         .r 16 (.not (.t 15)),
         .r 12 (.mv (.t 16))])
      (.cond (.t 12)
        (.seq (.reg [.r 2 (.mv (.c (.d (.int .i64 4))))])
        .ret)
        (.seq (.reg [.r 18 (.fld 2 (.t 1)),
           .o 19 (.ld1 (.t 18)),
           .r 20 (.len (.t 19)),
           .r 21 (.bin .gtr (.t 20) (.c (.d (.int .i64 50)))),
           .r 17 (.mv (.t 21))])
        (.cond (.t 17)
          (.seq (.reg [.r 2 (.mv (.c (.d (.int .i64 2))))])
          .ret)
          .skip)))))))
  (.seq (.reg [.r 3 (.mv (.c (.d (.int .i64 0))))])
  (.seq (.seq (.reg [.r 22 (.fld 2 (.t 1)),
     .o 23 (.ld1 (.t 22)),
     .r 24 (.len (.t 23)),
     .r 25 (.mv (.c (.d (.int .i64 0))))])
  sc_reply_CheckReply_B1)
  (.seq (.seq (.reg [.r 45 (.mv (.t 3)),
     .r 46 (.bin .gtr (.t 45) (.c (.d (.int .i64 200))))])
  (.cond (.t 46)
    (.seq (.reg [.r 2 (.mv (.c (.d (.int .i64 2))))])
    .ret)
    .skip))
  (.seq (.seq (.regD [.r 47 (.ldA 3 (.t 1)),
     .c 48 (.f 47) [.t 47],
     .r 49 (.fld 1 (.t 1)),
     .r 50 (.ld1 (.t 49)),
     .r 51 (.bin .neq (.t 48) (.t 50))])
  (.cond (.t 51)
    (.seq (.reg [.r 2 (.mv (.c (.d (.int .i64 12))))])
    .ret)
    .skip))
  (.seq (.reg [.r 2 (.mv (.c (.d (.int .i64 0))))])
  .ret)))))))
theorem fit_reply_CheckReply : fits Tryd.prog 12 Tryd.f12 sc_reply_CheckReply [.t 2] 1 = true := by kernel_rfl

set_option maxRecDepth 100000 in
set_option maxHeartbeats 40000000 in
noncomputable def sims_G5_5_0 : (∀ (x0 : Tapi_Reply), {m : Option (Int) // ∀ r, m = some r → PureSpec Tryd.prog 12 [.agg (rTapi_Reply x0)] (.int .i64 r)}) := by
  (intro x0; apply Subtype.mk; intro r hm; apply pure_walk Tryd.func12 fit_reply_CheckReply; unfold sc_reply_CheckReply)
  repeat' (first | with_reducible refine W_seq ?_ | with_reducible refine W_reg ?_ | with_reducible refine W_regD ?_ | with_reducible refine W_block ?_ | with_reducible refine W_skip ?_ | with_reducible refine W_ret ?_ | with_reducible refine W_exit ?_ | with_reducible refine O_nil ?_ | with_reducible refine K_seq ?_ | with_reducible refine K_seqE ?_ | with_reducible refine K_seqR ?_ | with_reducible refine K_block ?_ | with_reducible refine K_blockR ?_ | with_reducible refine K_blockE ?_ | ((with_reducible apply K_blockN); decide) | with_reducible refine O_o2r ?_ | ((with_reducible apply O_idxr hm); (iterate 2 (simp only [push_cast, seval]; rfl)); (intro _; rfl); intro e hm) | ((with_reducible apply O_idxVr hm); (iterate 3 (simp only [push_cast, seval]; rfl)); intro e hm) | ((with_reducible apply O_slcr hm); (iterate 3 (simp only [push_cast, seval]; rfl)); (intro _; rfl); intro e hm) | ((with_reducible apply O_r); (simp only [push_cast, seval]; rfl); (first | exact trivial | omega)) | ((with_reducible apply O_ldV1r hm); (iterate 2 (simp only [push_cast, seval]; rfl)); (intro _; rfl); intro e hm) | ((with_reducible apply O_ldAVr hm); (iterate 2 (simp only [push_cast, seval]; rfl)); (intro _; rfl); intro e hm) | ((with_reducible apply O_strr hm); (iterate 2 (simp only [push_cast, seval]; rfl)); intro hm) | ((with_reducible apply W_condT); (focus (simp only [push_cast, seval]; done))) | ((with_reducible apply W_condF); (focus (simp only [push_cast, seval]; done))) | ((with_reducible apply O_cF hm); (simp only [push_cast, seval]; rfl); (first | apply spec_kit_IsRef _ | apply spec_reply_isVerdict _ | apply spec_reply_groupFault _ _ | apply spec_reply_verdictOf _); (any_goals ((repeat' (first | rfl | (with_reducible first | apply fT_Tapi_GroupReply | apply fT_Tapi_MessageReply | apply fT_Tapi_Flaw | apply fT_Tapi_Spot | apply fT_Tapi_Reply | apply f_optN | apply f_optS | apply f_some | apply f_tup | apply f_agg | apply f_ptr | apply f_fn | apply dv_slice | apply sv_d | apply f_cons | apply fold_nil | apply fold_cons | apply fold_app | apply f_rowI | apply f_rowY | apply f_rowS | apply f_rowB | apply f_rowL) | (with_reducible apply f_byte; decide))); done)); intro x hm) | ((with_reducible apply O_w); (simp only [push_cast, seval]; rfl); (first | exact trivial | omega)) | ((with_reducible apply O_stVA hm); (iterate 4 (simp only [push_cast, seval]; rfl)); (focus ((repeat' (first | rfl | (with_reducible first | apply fT_Tapi_GroupReply | apply fT_Tapi_MessageReply | apply fT_Tapi_Flaw | apply fT_Tapi_Spot | apply fT_Tapi_Reply | apply f_optN | apply f_optS | apply f_some | apply f_tup | apply f_agg | apply f_ptr | apply f_fn | apply dv_slice | apply sv_d | apply f_cons | apply fold_nil | apply fold_cons | apply fold_app | apply f_rowI | apply f_rowY | apply f_rowS | apply f_rowB | apply f_rowL) | (with_reducible apply f_byte; decide))); done)); decide; (intro _; rfl); intro e hm) | ((with_reducible apply S_condB hm); (simp only [push_cast, seval]; rfl); intro hm; rotate_left; intro hm) | ((with_reducible apply K_endS hm); (focus (simp only [resOf, resL, RV.get, push_cast, seval]; rfl)); (focus ((repeat' (first | rfl | (with_reducible first | apply fT_Tapi_GroupReply | apply fT_Tapi_MessageReply | apply fT_Tapi_Flaw | apply fT_Tapi_Spot | apply fT_Tapi_Reply | apply f_optN | apply f_optS | apply f_some | apply f_tup | apply f_agg | apply f_ptr | apply f_fn | apply dv_slice | apply sv_d | apply f_cons | apply fold_nil | apply fold_cons | apply fold_app | apply f_rowI | apply f_rowY | apply f_rowS | apply f_rowB | apply f_rowL) | (with_reducible apply f_byte; decide))); done))) | ((with_reducible apply K_leave hm); intro r hm) | ((with_reducible apply K_leaveR hm); intro r hm) | ((apply S_loopY (b := 1) (X := sc_reply_CheckReply_B1) (x := sc_reply_CheckReply_L1) rfl (fun (c : SV × SV × SV) (s : Int × Int) => st [(1, c.1), (3, .d (.int .i64 s.1)), (23, c.2.1), (24, c.2.2), (25, .d (.int .i64 s.2))] []) (c := (_, _, _)) (s0 := (_, _)) hm); (focus (first | (dsimp only; done) | (dsimp only; rfl) | rfl)); (with_reducible refine Then.mk ?_ ?_)) | ((apply K_next (s' := (_, _)) hm); (focus (first | (dsimp only; done) | (dsimp only; rfl) | rfl))) | ((apply K_brk (s' := (_, _)) hm); (focus (first | (dsimp only; done) | (dsimp only; rfl) | rfl))) | (((with_reducible apply K_brkN hm); (focus decide); intro r hm)) | (((with_reducible apply K_brkR hm); intro r hm)) | (((with_reducible apply LoopB.of); (focus (first | (dsimp only; done) | (dsimp only; rfl) | rfl)); (focus ((intro _; repeat' (first | with_reducible exact impC_end | with_reducible exact impC_endF | with_reducible refine impC_seq ?_ | with_reducible refine impC_block ?_ | ((with_reducible refine impC_rnd ?_); intro _) | ((with_reducible refine impC_brk ?_); intro _))))); (intro s o hm; first | unfold sc_reply_CheckReply_L1); rotate_left; intro s hm)) | (((apply imp_stT; (repeat' (first | with_reducible exact keepT_nil | with_reducible exact keepC_nil | with_reducible apply keepT_cons | with_reducible apply keepC_cons | ((with_reducible apply svle_eq); (focus (first | (simp only [push_cast, seval]; rfl) | rfl)); (focus ((repeat' (first | rfl | (with_reducible first | apply fT_Tapi_GroupReply | apply fT_Tapi_MessageReply | apply fT_Tapi_Flaw | apply fT_Tapi_Spot | apply fT_Tapi_Reply | apply f_optN | apply f_optS | apply f_some | apply f_tup | apply f_agg | apply f_ptr | apply f_fn | apply dv_slice | apply sv_d | apply f_cons | apply fold_nil | apply fold_cons | apply fold_app | apply f_rowI | apply f_rowY | apply f_rowS | apply f_rowB | apply f_rowL) | (with_reducible apply f_byte; decide))); done))) | ((with_reducible apply svle_td); (focus (first | (simp only [push_cast, seval]; rfl) | rfl)); (focus (first | (simp only [push_cast, seval]; rfl) | rfl)); (focus ((repeat' (first | rfl | (with_reducible first | apply fT_Tapi_GroupReply | apply fT_Tapi_MessageReply | apply fT_Tapi_Flaw | apply fT_Tapi_Spot | apply fT_Tapi_Reply | apply f_optN | apply f_optS | apply f_some | apply f_tup | apply f_agg | apply f_ptr | apply f_fn | apply dv_slice | apply sv_d | apply f_cons | apply fold_nil | apply fold_cons | apply fold_app | apply f_rowI | apply f_rowY | apply f_rowS | apply f_rowB | apply f_rowL) | (with_reducible apply f_byte; decide))); done))) | ((with_reducible apply chle_eq); (focus (first | (simp only [push_cast, seval]; rfl) | rfl)); (first | with_reducible exact chle_rfl rfl | with_reducible exact chle_map0 | with_reducible apply chle_vec | with_reducible apply chle_box)) | (with_reducible first | apply cT_Tapi_GroupReply | apply cT_Tapi_MessageReply | apply cT_Tapi_Flaw | apply cT_Tapi_Spot | apply cT_Tapi_Reply | apply r_shS | apply r_shI | apply r_rflO | apply r_oneO | apply r_appO | apply r_nilO | apply c_ownN | apply c_ownL | apply vc_rfl | apply vc_nil | apply vc_cons | apply r_rfl | apply r_rows | apply r_nil | apply r_app | apply r_cons | apply c_rowI | apply c_rowY | apply c_rowS | apply c_rowB | apply c_rowL))); done))))
noncomputable def m_reply_CheckReply (x0 : Tapi_Reply) : Option (Int) := (sims_G5_5_0 x0).1
theorem spec_reply_CheckReply (x0 : Tapi_Reply) : ∀ r, m_reply_CheckReply x0 = some r → PureSpec Tryd.prog 12 [.agg (rTapi_Reply x0)] (.int .i64 r) := (sims_G5_5_0 x0).2

end Go.Proofs.YtpojlkajcobgcaaDoor
