/-
  Texts of mine, one behind the other (SBShelf, SBLibT, SBLibO, SBLibP, SBShelfZ, SBLibZ, SBG1, SBRow, SBPL, SBP1, SBP2, SBP3, SBP4, SBP5, SBP6, SBG2, SBP7, SBS1, SBS2, SBS3).
-/
import Derived.Ground.NamesProg
import Derived.Shelf.Strings.SlTrimAscii
import Derived.Shelf.Small.Strs
import Derived.Shelf.Strings.IndexAnyAll
import Derived.Test.YtlmmfddbpagiaaaDoorProg
import Derived.Test.YtlmmfddbpagiaaaDoorSBEngY
import Derived.KernelRfl
import Derived.Test.YtlmmfddbpagiaaaDoorSBEngX
import Derived.Shelf.Sort.Plain
import Derived.Test.YtlmmfddbpagiaaaDoorSBEngRg
import Derived.Shelf.Slices.In.SortNone
import Derived.Sort.OwnSorted
import Derived.Test.YtlmmfddbpagiaaaDoorSBEngZz
import Derived.Test.YtlmmfddbpagiaaaDoorCards
import Derived.Test.YtlmmfddbpagiaaaDoorTie
import Derived.Test.YtlmmfddbpagiaaaDoorSBEngR
import Derived.Sort.Walk0
/-
  DERIVED: THE SHELF's CONTRACTS AT THIS DUMP, IN PLAIN WORDS (tools/lay-plain.mjs out of 'YtlmmfddbpagiaaaDoorShelf.lean', which tools/lay-shelf.mjs wrote): THE SAME DECLARATIONS UNDER THE SAME NAMES: 'import', 'namespace', 'open', 'def', 'theorem' AND NOTHING ELSE: no command of the shelf's: FOR A HAND-IN. Each laying: the table of numbers ('.._ren') and one theorem, a field a fact of the dump's own or the kernel's comparison; each contract: ONE APPLICATION.
-/
namespace Go.Proofs
open Go.Shelf
def Tryd.lays160_ren : Go.Shelf.Ren := ⟨fun | 160 => 58 | 232 => 99 | 231 => 98 | 227 => 100 | 234 => 102 | 233 => 101 | 236 => 104 | 235 => 103 | 228 => 131 | 271 => 134 | 151 => 133 | 197 => 132 | 120 => 155 | 152 => 154 | 260 => 153 | 137 => 143 | 119 => 172 | 224 => 173 | 225 => 167 | 217 => 169 | 266 => 161 | n => n, fun | 9 => 9 | 4 => 4 | 3 => 3 | 5 => 5 | 117 => 157 | 116 => 156 | 0 => 0 | 124 => 160 | 21 => 21 | 105 => 186 | 46 => 106 | 119 => 214 | 139 => 217 | 138 => 216 | n => n, fun | 3 => 2 | 4 => 3 | n => n⟩
theorem Tryd.lays160 : Go.Proofs.Lays.n160 Tryd.prog Tryd.lays160_ren := {
  mixed := by kernel_rfl
  f119 := Tryd.func172.trans (congrArg some (by kernel_rfl))
  f120 := Tryd.func155.trans (congrArg some (by kernel_rfl))
  f137 := Tryd.func143.trans (congrArg some (by kernel_rfl))
  f151 := Tryd.func133.trans (congrArg some (by kernel_rfl))
  f152 := Tryd.func154.trans (congrArg some (by kernel_rfl))
  f160 := Tryd.func58.trans (congrArg some (by kernel_rfl))
  f197 := Tryd.func132.trans (congrArg some (by kernel_rfl))
  f217 := Tryd.func169.trans (congrArg some (by kernel_rfl))
  f224 := Tryd.func173.trans (congrArg some (by kernel_rfl))
  f225 := Tryd.func167.trans (congrArg some (by kernel_rfl))
  f227 := Tryd.func100.trans (congrArg some (by kernel_rfl))
  f228 := Tryd.func131.trans (congrArg some (by kernel_rfl))
  f231 := Tryd.func98.trans (congrArg some (by kernel_rfl))
  f232 := Tryd.func99.trans (congrArg some (by kernel_rfl))
  f233 := Tryd.func101.trans (congrArg some (by kernel_rfl))
  f234 := Tryd.func102.trans (congrArg some (by kernel_rfl))
  f235 := Tryd.func103.trans (congrArg some (by kernel_rfl))
  f236 := Tryd.func104.trans (congrArg some (by kernel_rfl))
  f260 := Tryd.func153.trans (congrArg some (by kernel_rfl))
  f266 := Tryd.func161.trans (congrArg some (by kernel_rfl))
  f271 := Tryd.func134.trans (congrArg some (by kernel_rfl))
  t0 := Tryd.underlying0
  a0 := Tryd.isAgg0
  z0 := Tryd.sizeOf0
  v0 := Tryd.zeroValue0
  t3 := Tryd.underlying3
  a3 := Tryd.isAgg3
  z3 := Tryd.sizeOf3
  v3 := Tryd.zeroValue3
  t4 := Tryd.underlying4
  a4 := Tryd.isAgg4
  z4 := Tryd.sizeOf4
  v4 := Tryd.zeroValue4
  t5 := Tryd.underlying5
  a5 := Tryd.isAgg5
  z5 := Tryd.sizeOf5
  v5 := Tryd.zeroValue5
  t9 := Tryd.underlying9
  a9 := Tryd.isAgg9
  z9 := Tryd.sizeOf9
  v9 := Tryd.zeroValue9
  t21 := Tryd.underlying21
  a21 := Tryd.isAgg21
  z21 := Tryd.sizeOf21
  v21 := Tryd.zeroValue21
  t46 := Tryd.underlying106
  a46 := Tryd.isAgg106
  z46 := Tryd.sizeOf106
  v46 := Tryd.zeroValue106
  t105 := Tryd.underlying186
  a105 := Tryd.isAgg186
  z105 := Tryd.sizeOf186
  v105 := Tryd.zeroValue186
  t116 := Tryd.underlying156
  a116 := Tryd.isAgg156
  z116 := Tryd.sizeOf156
  t117 := Tryd.underlying157
  a117 := Tryd.isAgg157
  z117 := Tryd.sizeOf157
  v117 := Tryd.zeroValue157
  t119 := Tryd.underlying214
  a119 := Tryd.isAgg214
  z119 := Tryd.sizeOf214
  t124 := Tryd.underlying160
  a124 := Tryd.isAgg160
  z124 := Tryd.sizeOf160
  v124 := Tryd.zeroValue160
  t138 := Tryd.underlying216
  a138 := Tryd.isAgg216
  z138 := Tryd.sizeOf216
  v138 := Tryd.zeroValue216
  t139 := Tryd.underlying217
  a139 := Tryd.isAgg217
  z139 := Tryd.sizeOf217
  v139 := Tryd.zeroValue217
  g3 := by kernel_rfl
  g4 := by kernel_rfl }
end Go.Proofs

/-
  strings.Trim at a set of ASCII bytes.
-/
namespace Go.Proofs.YtlmmfddbpagiaaaDoor
set_option linter.unusedSimpArgs false
set_option linter.unusedVariables false
open Go.RowKit Go.Shelf

def m_strings_Trim (s cs : List UInt8) : Option (List UInt8) := if s.length ≤ 9223372036854775807 ∧ cs.length < 4294967281 ∧ cs.all (fun b => decide (b.toNat < 128)) = true then some (Lib.trimS s cs) else none
theorem spec_strings_Trim (s cs : List UInt8) : ∀ r, m_strings_Trim s cs = some r → PureSpec Tryd.prog 58 [.str s, .str cs] (.str r) := by
  intro r hr
  unfold m_strings_Trim at hr
  split at hr
  · rename_i h
    obtain ⟨h1, h2, h3⟩ := h
    cases hr
    refine ⟨by kernel_rfl, fun w M vs hM hv _ => ?_⟩
    simp only [RepL, Rep] at hv
    obtain ⟨u, us, rfl, rfl, u', us', rfl, rfl, rfl⟩ := hv
    have hcon := Any.strings_Trim_laid Tryd.lays160 (by kernel_rfl) ⟨s.toArray⟩ ⟨cs.toArray⟩ w (by simpa [ByteArray.size] using h1) (by simpa [ByteArray.size] using h2) (ascii_of_all (by simpa using h3))
    refine Calls.mono hcon ?_
    rintro e w' ⟨rfl, hB⟩
    exact ⟨_, rfl, by simp [Rep], hB⟩
  · cases hr
end Go.Proofs.YtlmmfddbpagiaaaDoor

/-
  A row that a call has made, as data.
-/
namespace Go.Proofs.YtlmmfddbpagiaaaDoor
set_option linter.unusedSimpArgs false
set_option linter.unusedVariables false
open Go.RowKit Go.Lib
theorem dR_toDVs : ∀ (l : List DV), SV.toDVs (dR l) = some l
  | [] => rfl
  | d :: l => by
    have ih := dR_toDVs l
    simp only [dR, List.map_cons, SV.toDVs, SV.toDV] at ih ⊢
    rw [ih]
end Go.Proofs.YtlmmfddbpagiaaaDoor

/-
  Calls whose result is an owned slice.
-/
namespace Go.Proofs.YtlmmfddbpagiaaaDoor
set_option linter.unusedSimpArgs false
set_option linter.unusedVariables false
open Go.RowKit Go.Lib

theorem dR_flat : ∀ (rows : List (List DV)), (rows.map dR).flatten = dR rows.flatten
  | [] => rfl
  | r :: rows => by
    have ih := dR_flat rows
    simp only [dR, List.map_cons, List.flatten_cons, List.map_append] at ih ⊢
    rw [ih]
end Go.Proofs.YtlmmfddbpagiaaaDoor

/-
  DERIVED: THE SHELF's CONTRACTS AT THIS DUMP, IN PLAIN WORDS (tools/lay-plain.mjs out of 'YtlmmfddbpagiaaaDoorShelfZ.lean', which tools/lay-shelf.mjs wrote): THE SAME DECLARATIONS UNDER THE SAME NAMES: 'import', 'namespace', 'open', 'def', 'theorem' AND NOTHING ELSE: no command of the shelf's: FOR A HAND-IN. Each laying: the table of numbers ('.._ren') and one theorem, a field a fact of the dump's own or the kernel's comparison; each contract: ONE APPLICATION.
-/
namespace Go.Proofs
open Go.Shelf
def Tryd.lays190_ren : Go.Shelf.Ren := ⟨fun | 190 => 38 | 125 => 55 | 258 => 54 | 128 => 89 | 129 => 90 | 302 => 80 | 303 => 81 | 304 => 82 | 305 => 83 | 306 => 84 | 307 => 85 | 308 => 86 | 309 => 87 | 310 => 88 | 333 => 119 | 329 => 120 | 330 => 121 | 334 => 122 | 335 => 123 | 336 => 124 | 344 => 149 | n => n, fun | 31 => 30 | 9 => 9 | 3 => 3 | 46 => 106 | 0 => 0 | 51 => 140 | 53 => 111 | 4 => 4 | 183 => 132 | 182 => 131 | 131 => 137 | 5 => 5 | 218 => 175 | 222 => 179 | 228 => 197 | 229 => 198 | n => n, fun | n => n⟩
theorem Tryd.lays190 : Go.Proofs.Lays.n190 Tryd.prog Tryd.lays190_ren := {
  mixed := by kernel_rfl
  f125 := Tryd.func55.trans (congrArg some (by kernel_rfl))
  f128 := Tryd.func89.trans (congrArg some (by kernel_rfl))
  f129 := Tryd.func90.trans (congrArg some (by kernel_rfl))
  f190 := Tryd.func38.trans (congrArg some (by kernel_rfl))
  f258 := Tryd.func54.trans (congrArg some (by kernel_rfl))
  f302 := Tryd.func80.trans (congrArg some (by kernel_rfl))
  f303 := Tryd.func81.trans (congrArg some (by kernel_rfl))
  f304 := Tryd.func82.trans (congrArg some (by kernel_rfl))
  f305 := Tryd.func83.trans (congrArg some (by kernel_rfl))
  f306 := Tryd.func84.trans (congrArg some (by kernel_rfl))
  f307 := Tryd.func85.trans (congrArg some (by kernel_rfl))
  f308 := Tryd.func86.trans (congrArg some (by kernel_rfl))
  f309 := Tryd.func87.trans (congrArg some (by kernel_rfl))
  f310 := Tryd.func88.trans (congrArg some (by kernel_rfl))
  f329 := Tryd.func120.trans (congrArg some (by kernel_rfl))
  f330 := Tryd.func121.trans (congrArg some (by kernel_rfl))
  f333 := Tryd.func119.trans (congrArg some (by kernel_rfl))
  f334 := Tryd.func122.trans (congrArg some (by kernel_rfl))
  f335 := Tryd.func123.trans (congrArg some (by kernel_rfl))
  f336 := Tryd.func124.trans (congrArg some (by kernel_rfl))
  f344 := Tryd.func149.trans (congrArg some (by kernel_rfl))
  t0 := Tryd.underlying0
  a0 := Tryd.isAgg0
  z0 := Tryd.sizeOf0
  v0 := Tryd.zeroValue0
  t3 := Tryd.underlying3
  a3 := Tryd.isAgg3
  z3 := Tryd.sizeOf3
  v3 := Tryd.zeroValue3
  t4 := Tryd.underlying4
  a4 := Tryd.isAgg4
  z4 := Tryd.sizeOf4
  v4 := Tryd.zeroValue4
  t5 := Tryd.underlying5
  a5 := Tryd.isAgg5
  z5 := Tryd.sizeOf5
  v5 := Tryd.zeroValue5
  t9 := Tryd.underlying9
  a9 := Tryd.isAgg9
  z9 := Tryd.sizeOf9
  v9 := Tryd.zeroValue9
  t31 := Tryd.underlying30
  a31 := Tryd.isAgg30
  z31 := Tryd.sizeOf30
  v31 := Tryd.zeroValue30
  t46 := Tryd.underlying106
  a46 := Tryd.isAgg106
  z46 := Tryd.sizeOf106
  v46 := Tryd.zeroValue106
  t51 := Tryd.underlying140
  a51 := Tryd.isAgg140
  z51 := Tryd.sizeOf140
  v51 := Tryd.zeroValue140
  t53 := Tryd.underlying111
  a53 := Tryd.isAgg111
  z53 := Tryd.sizeOf111
  v53 := Tryd.zeroValue111
  t131 := Tryd.underlying137
  a131 := Tryd.isAgg137
  z131 := Tryd.sizeOf137
  v131 := Tryd.zeroValue137
  t182 := Tryd.underlying131
  a182 := Tryd.isAgg131
  z182 := Tryd.sizeOf131
  v182 := Tryd.zeroValue131
  t183 := Tryd.underlying132
  a183 := Tryd.isAgg132
  z183 := Tryd.sizeOf132
  v183 := Tryd.zeroValue132
  t218 := Tryd.underlying175
  a218 := Tryd.isAgg175
  z218 := Tryd.sizeOf175
  v218 := Tryd.zeroValue175
  t222 := Tryd.underlying179
  a222 := Tryd.isAgg179
  z222 := Tryd.sizeOf179
  v222 := Tryd.zeroValue179
  t228 := Tryd.underlying197
  a228 := Tryd.isAgg197
  z228 := Tryd.sizeOf197
  v228 := Tryd.zeroValue197
  t229 := Tryd.underlying198
  a229 := Tryd.isAgg198
  z229 := Tryd.sizeOf198
  v229 := Tryd.zeroValue198 }
end Go.Proofs

/-
  slices.Sort at strings, of a slice that the caller owns; maps whose values are data.
-/
namespace Go.Proofs.YtlmmfddbpagiaaaDoor
set_option linter.unusedSimpArgs false
set_option linter.unusedVariables false
open Go.RowKit Go.Shelf Go.Sort

theorem rows_strs {w : World} {M : Nat → Prop} : ∀ {l : List (List UInt8)} {xs : List Value}, RepL w M (l.map rowS).flatten xs → xs = l.map encStr
  | [], xs, h => by simpa [RepL] using h
  | s :: l, xs, h => by
    simp only [List.map_cons, List.flatten_cons, rowS, List.cons_append, List.nil_append] at h
    unfold RepL at h
    obtain ⟨u, us, rfl, h1, h2⟩ := h
    rw [rows_strs (l := l) h2]
    unfold Rep at h1
    rw [h1]; rfl
theorem strs_rows {w : World} {M : Nat → Prop} : ∀ (l : List (List UInt8)), RepL w M (l.map rowS).flatten (l.map encStr)
  | [] => by simp [RepL]
  | s :: l => by
    simp only [List.map_cons, List.flatten_cons, rowS, List.cons_append, List.nil_append]
    unfold RepL
    exact ⟨_, _, rfl, by unfold Rep; rfl, strs_rows l⟩
theorem rowS_own (l : List (List UInt8)) : (l.map rowS).map (ownR [.sh]) = vrow rowS l := ownR_sh (row := rowS) (n := 1) (fun _ => rfl) l

def m_slices_Sort_string_string (l : List (List UInt8)) : Option (List (List UInt8)) := if l.length < 4611686018427387904 then some (l.mergeSort fun x y => decide (x ≤ y)) else none
theorem fspec_slices_Sort_string_string (l : List (List UInt8)) : ∀ r, m_slices_Sort_string_string l = some r →
    FSpec Tryd.prog 38 [.own (.sl 9 (List.replicate 1 .sh)) (.slice (l.map rowS))] (.d (.tup [])) [.own (.sl 9 (List.replicate 1 .sh)) (.slice (r.map rowS))] := by
  intro r hr
  unfold m_slices_Sort_string_string at hr
  split at hr
  · rename_i hlen
    simp only [Option.some.injEq] at hr
    refine ⟨by kernel_rfl, fun w M vs F hM hF hn hv _ hfree => ?_⟩
    unfold RepGL at hv
    obtain ⟨v, us, F1, F2, rfl, rfl, hv, hrest⟩ := hv
    unfold RepGL at hrest
    obtain ⟨rfl, rfl⟩ := hrest
    simp only [List.append_nil] at hM hF hn hv hfree ⊢
    have hrl : r.length = l.length := by rw [← hr]; exact List.length_mergeSort _
    unfold RepG RepO at hv
    obtain ⟨rows, xs, G, hrows, hown, hone, hall, hcells, rfl⟩ := hv
    simp only [DV.slice.injEq] at hrows
    subst hrows
    have hG := (ownRows_iff (κ := κ0) hall).2 hcells
    rw [show List.replicate 1 Mask.sh = [.sh] from rfl, rowS_own] at hG
    obtain ⟨hS, rfl⟩ := RepGL.to_S _ _ _ (by
      have : vrow rowS l = (l.map rowS).map dR := by simp [vrow]
      rw [this, dR_flat]
      exact toDVs_noOwns _ _ (dR_toDVs _)) hG
    have hL : RepL w (fun b => M b ∨ b ∈ blkL v ++ []) (l.map rowS).flatten xs := by
      have : vrow rowS l = (l.map rowS).map dR := by simp [vrow]
      rw [this, dR_flat] at hS
      exact RepSL.toDVs _ _ _ hS (dR_toDVs _)
    have hxs := rows_strs hL
    subst hxs
    simp only [List.append_nil] at hM hF hn hfree ⊢
    simp only [List.length_map, List.length_replicate] at hown
    have fin : ∀ (w' : World) (v : Value), w'.ownsRow 0 9 1 v r.length (r.map encStr) → RepG w' (fun b => M b ∨ b ∈ blkL v ++ []) κ0 (.own (.sl 9 (List.replicate 1 .sh)) (.slice (r.map rowS))) v (blkL v) := by
      intro w' v ho
      unfold RepG RepO
      refine ⟨r.map rowS, r.map encStr, [], rfl, by simpa using ho, ?_, ?_, ?_, by simp⟩
      · intro x hx
        obtain ⟨s, _, rfl⟩ := List.mem_map.1 hx
        rfl
      · intro q hq
        obtain ⟨s, _, rfl⟩ := List.mem_map.1 hq
        rfl
      · refine (ownRows_iff (κ := κ0) (by intro q hq; obtain ⟨s, _, rfl⟩ := List.mem_map.1 hq; rfl)).1 ?_
        rw [show List.replicate 1 Mask.sh = [.sh] from rfl, rowS_own]
        have : vrow rowS r = (r.map rowS).map dR := by simp [vrow]
        rw [this, dR_flat]
        exact RepGL.of_S _ _ (RepSL.of_d (strs_rows r))
    rcases hown.2 with ⟨rfl, hl0⟩ | ⟨g, cap, cur, rfl, hb2, hg, hcap, hmax, hcur, htake⟩
    · have hr0 : r = [] := List.eq_nil_of_length_eq_zero (by omega)
      subst hr0
      refine Calls.mono (Any.slices_Sort_string_none Tryd.lays190 none 0 w) ?_
      rintro e w' ⟨rfl, rfl⟩
      refine ⟨.tuple #[], [], [], rfl, ?_, ?_, by simp, by simp, Chg.refl _ _ _⟩
      · unfold RepGL
        exact ⟨_, [], [], [], rfl, rfl, fin w' _ ⟨by simp, .inl ⟨rfl, rfl⟩⟩, by unfold RepGL; exact ⟨rfl, rfl⟩⟩
      · unfold RepG RepS Rep
        exact ⟨rfl, [], rfl, by simp [RepL]⟩
    · have hblk : g < w.heap.size := (Array.getElem?_eq_some_iff.1 hg).1
      simp only [Nat.mul_one] at htake hcur
      refine Calls.mono (Any.slices_Sort_string Tryd.lays190 g 0 cap l w (Go.holds_of_block hg htake) hblk hlen) ?_
      rintro e w' ⟨rfl, n, os, rfl⟩
      rw [hr]
      have ho := Go.ownsRow_sorted (base := 0) (w := w) (n := n) (os := os) (ss := l) (ts := r) hrl (Nat.zero_le _) hg hcap hmax (by simpa using hcur)
      have hgr := Go.grownBy_sorted (w := w) (g := g) (n := n) (os := os) r.toArray
      obtain ⟨g1, g2, g3, g4, g5⟩ := hgr
      refine ⟨.tuple #[], [g], [], rfl, ?_, ?_, by simp, ?_, ⟨g1, g2, g3, g4, fun b hb hnb => g5 b hb ?_⟩⟩
      · unfold RepGL
        refine ⟨_, [], [g], [], rfl, rfl, ?_, by unfold RepGL; exact ⟨rfl, rfl⟩⟩
        have h1 := fin _ _ (by rw [hrl]; exact ho)
        simpa [blkL, blk] using h1
      · unfold RepG RepS Rep
        exact ⟨rfl, [], rfl, by simp [RepL]⟩
      · intro b hb
        simp at hb
        subst hb
        exact ⟨.inl (by simp [blkL, blk]), by omega⟩
      · intro he
        simp only [Option.some.injEq] at he
        subst he
        exact hnb (by simp [blkL, blk])
  · cases hr

theorem repK_data {K V : Type} {ke : K → DV} {f : V → DV} (id : Nat) (dv : DV) (W : List (K × V)) : repK id dv (encM ke (fun v => .d (f v)) W) = encM ke (fun v => .d (f v)) W := repK_enc id dv (fun _ => rfl) W
attribute [push_cast] repK_data

section
variable {P : Program} {s : Nat → SV} {h : Nat → Ch} {K : St → Prop} {sos : List SO} {α : Type} {row : α → List DV}
theorem O_slc3r {R α : Type} {r : R} {l : List α} {row : α → List DV} {sz : Nat} {lo : Option Int} {hi : Int} {x j : SX} {i : Option SX} {ki ki' : IntKind} {dst : Nat} {kk : List α → Option R} (hm : (sliceI l (lo.getD 0) hi).bind kk = some r) (hx : ev s x = .d (.slice (l.map row))) (hl : evN s i = some lo) (hh : ev s j = .d (.int ki hi)) (hsz : ∀ e, (row e).length = sz) {mx : SX} (hmx : ev s mx = .d (.int ki' hi))
    (hk : ∀ e, kk e = some r → AOps P K sos ⟨upd s dst (.d (.slice (e.map row))), h⟩) : AOps P K (.r dst (.slc3 sz x i j mx) :: sos) ⟨s, h⟩ := by
  cases he : sliceI l (lo.getD 0) hi with
  | none => rw [he] at hm; cases hm
  | some e =>
    rw [he] at hm
    unfold sliceI at he
    split at he
    · rename_i h0
      simp only [Option.some.injEq] at he
      refine O_r (p := (∀ r ∈ l.map row, r.length = sz) ∧ 0 ≤ lo.getD 0 ∧ lo.getD 0 ≤ hi ∧ hi ≤ hi ∧ hi ≤ (l.map row).length) (v := .d (.slice (e.map row))) ?_ ⟨fun q hq => by obtain ⟨z, _, rfl⟩ := List.mem_map.1 hq; exact hsz z, by simp only [List.length_map]; omega⟩ (hk e hm)
      simp only [rd, hx, hl, hh, hmx, ← he, List.map_drop, List.map_take]
    · cases he
/-- A call that is handed an owned slice, and leaves another one in its place. -/
theorem O_pV {Y R : Type} {r : R} {a : Option Y} {k : Y → Option R} {dst f id e n : Nat} {x : SX} {l : List α} {l' : Y → List α} (hm : a.bind k = some r) (hx : ev s x = .vec id) (hh : h id = .vec e n (vrow row l)) (hsz : ∀ a, (row a).length = n)
    (hs : ∀ y, a = some y → FSpec P f [.own (.sl e (List.replicate n .sh)) (.slice (l.map row))] (.d (.tup [])) [.own (.sl e (List.replicate n .sh)) (.slice ((l' y).map row))])
    (hk : ∀ y, k y = some r → AOps P K sos ⟨upd s dst (.d (.tup [])), upd h id (.vec e n (vrow row (l' y)))⟩) : AOps P K (.p (some dst) (.f f) [x] :: sos) ⟨s, h⟩ := by
  cases hy : a with
  | none => rw [hy] at hm; cases hm
  | some y =>
    rw [hy] at hm
    have hl : ∀ (l : List α), (l.map row).map (ownR (List.replicate n .sh)) = vrow row l := fun l => ownR_sh hsz l
    refine O_p (σ1 := ⟨s, h⟩) (L := [(id, .vec e n (vrow row (l' y)))]) (Imp.refl _) (hs y hy) rfl ?_ (s' := upd s dst (.d (.tup []))) (h' := upd h id (.vec e n (vrow row (l' y)))) ?_ (hk y hm)
    · simp only [List.map_cons, List.map_nil, hx]
      exact .ptr (ch := .vec e n (vrow row l)) (mk := .vec) (ch' := .vec e n (vrow row (l' y))) (mk' := .vec) (by simp only [openCh, List.length_replicate, hl]) (by intro q hq; obtain ⟨a, _, rfl⟩ := List.mem_map.1 hq; simp [hsz]) (by simp only [openCh, List.length_replicate, hl]) hh (by simp) .nil
    · simp only [takes, SV.nOwn, if_true, updL]
/-- A look into a map whose values are data. -/
theorem O_lookD {V : Type} {dst id : Nat} {z : SV} {m k : SX} {W : List (List UInt8 × V)} {key : List UInt8} {f : V → DV} {z0 : V} {ve : V → SV} (hx : ev s m = .mp id) (hk : ev s k = .d (.str key)) (hh : h id = .map .str (encM .str ve W)) (hve : ve = fun v => .d (f v)) (hz : z = .d (f z0))
    (hrest : AOps P K sos ⟨upd s dst (.d (f ((getM W key).getD z0))), h⟩) : AOps P K (.r dst (.look .str z false m k) :: sos) ⟨s, h⟩ := by
  subst hve hz
  refine O_lookM hx hk hh ?_ rfl hrest
  unfold lookV
  rw [kvGet_enc]
  cases getM W key <;> rfl
theorem rng_at {C : Type} {σ : St} {f : C → St} {B : C → Prop} {M : St} (c : C) (hM : f c = M) (h : Then (Imp σ M) (B c)) : ∃ c M, f c = M ∧ Then (Imp σ M) (B c) := ⟨c, M, hM, h⟩
theorem chle_mapS {V : Type} {W : List (List UInt8 × V)} {k : List UInt8} {v : V} {x : SV} {ve : V → SV} (hx : x = ve v) : chle (.map .str (kvSet (encM .str ve W) (.str k) x)) (.map .str (encM .str ve (putM W k v))) := by
  subst hx
  rw [kvSet_enc]
  exact chle_rfl rfl
end
end Go.Proofs.YtlmmfddbpagiaaaDoor

/-
  Bodies of functions and what they compute, printed by programs of mine (wip/tool/gen.py, sc.py) out of the translation; the kernel holds each against the translation.
-/
namespace Go.Proofs.YtlmmfddbpagiaaaDoor
open Go.RowKit
set_option linter.unusedSimpArgs false
set_option linter.unusedVariables false
structure Tapi_BookEvent where
  fKind : Int
  fTime : Int
  fDue : Int
  fRef : List UInt8
  fVerdict : Int
  deriving DecidableEq
def rTapi_BookEvent (x : Tapi_BookEvent) : List DV := [.int .i64 x.fKind, .int .i64 x.fTime, .int .i64 x.fDue, .str x.fRef, .int .i64 x.fVerdict]
attribute [push_cast] rTapi_BookEvent
theorem fT_Tapi_BookEvent {d0 d1 d2 d3 d4 : DV} {v0 : Int} {v1 : Int} {v2 : Int} {v3 : List UInt8} {v4 : Int} (h0 : d0 = .int .i64 v0) (h1 : d1 = .int .i64 v1) (h2 : d2 = .int .i64 v2) (h3 : d3 = .str v3) (h4 : d4 = .int .i64 v4) : [d0, d1, d2, d3, d4] = rTapi_BookEvent ⟨v0, v1, v2, v3, v4⟩ := by unfold rTapi_BookEvent; simp only [h0, h1, h2, h3, h4, List.cons_append, List.nil_append, List.append_assoc, List.append_nil]
structure Tapi_Sending where
  fRef : List UInt8
  fTime : Int
  fDue : Int
  fAnswer : Int
  fVerdict : Int
  deriving DecidableEq
def rTapi_Sending (x : Tapi_Sending) : List DV := [.str x.fRef, .int .i64 x.fTime, .int .i64 x.fDue, .int .i64 x.fAnswer, .int .i64 x.fVerdict]
attribute [push_cast] rTapi_Sending
theorem fT_Tapi_Sending {d0 d1 d2 d3 d4 : DV} {v0 : List UInt8} {v1 : Int} {v2 : Int} {v3 : Int} {v4 : Int} (h0 : d0 = .str v0) (h1 : d1 = .int .i64 v1) (h2 : d2 = .int .i64 v2) (h3 : d3 = .int .i64 v3) (h4 : d4 = .int .i64 v4) : [d0, d1, d2, d3, d4] = rTapi_Sending ⟨v0, v1, v2, v3, v4⟩ := by unfold rTapi_Sending; simp only [h0, h1, h2, h3, h4, List.cons_append, List.nil_append, List.append_assoc, List.append_nil]
theorem eT_Tapi_Sending {d0 d1 d2 d3 d4 : SV} {v0 : List UInt8} {v1 : Int} {v2 : Int} {v3 : Int} {v4 : Int} (h0 : d0 = .d (.str v0)) (h1 : d1 = .d (.int .i64 v1)) (h2 : d2 = .d (.int .i64 v2)) (h3 : d3 = .d (.int .i64 v3)) (h4 : d4 = .d (.int .i64 v4)) : [d0, d1, d2, d3, d4] = dR (rTapi_Sending ⟨v0, v1, v2, v3, v4⟩) := by simp only [rTapi_Sending, dR, List.map_append, List.map_cons, List.map_nil, List.cons_append, List.nil_append, List.append_assoc, List.append_nil, h0, h1, h2, h3, h4]

structure Tapi_Standing where
  fWaits : Int
  fLate : Int
  fTaken : Int
  fFlawed : Int
  fRefused : Int
  fOverdue : Int
  deriving DecidableEq
def rTapi_Standing (x : Tapi_Standing) : List DV := [.int .i64 x.fWaits, .int .i64 x.fLate, .int .i64 x.fTaken, .int .i64 x.fFlawed, .int .i64 x.fRefused, .int .i64 x.fOverdue]
attribute [push_cast] rTapi_Standing
theorem fT_Tapi_Standing {d0 d1 d2 d3 d4 d5 : DV} {v0 : Int} {v1 : Int} {v2 : Int} {v3 : Int} {v4 : Int} {v5 : Int} (h0 : d0 = .int .i64 v0) (h1 : d1 = .int .i64 v1) (h2 : d2 = .int .i64 v2) (h3 : d3 = .int .i64 v3) (h4 : d4 = .int .i64 v4) (h5 : d5 = .int .i64 v5) : [d0, d1, d2, d3, d4, d5] = rTapi_Standing ⟨v0, v1, v2, v3, v4, v5⟩ := by unfold rTapi_Standing; simp only [h0, h1, h2, h3, h4, h5, List.cons_append, List.nil_append, List.append_assoc, List.append_nil]
theorem cT_Tapi_Standing {d0 d1 d2 d3 d4 d5 : SV} {v0 : Int} {v1 : Int} {v2 : Int} {v3 : Int} {v4 : Int} {v5 : Int} (h0 : svle d0 (.d (.int .i64 v0))) (h1 : svle d1 (.d (.int .i64 v1))) (h2 : svle d2 (.d (.int .i64 v2))) (h3 : svle d3 (.d (.int .i64 v3))) (h4 : svle d4 (.d (.int .i64 v4))) (h5 : svle d5 (.d (.int .i64 v5))) : cellsle [d0, d1, d2, d3, d4, d5] (dR (rTapi_Standing ⟨v0, v1, v2, v3, v4, v5⟩)) := by have h := (cellsle.append (cellsle.consS h0 cellsle.nil) (cellsle.append (cellsle.consS h1 cellsle.nil) (cellsle.append (cellsle.consS h2 cellsle.nil) (cellsle.append (cellsle.consS h3 cellsle.nil) (cellsle.append (cellsle.consS h4 cellsle.nil) (cellsle.consS h5 cellsle.nil)))))); simpa only [rTapi_Standing, dR, List.map_append, List.map_cons, List.map_nil, List.cons_append, List.nil_append, List.append_assoc, List.append_nil] using h
/-- interchange/kit.Outside -/
def sc_kit_Outside : SC :=
  (.seq (.reg [.r 6 (.mv (.c (.d (.bool false))))])
  (.seq (.reg (.r 7 (.mv (.t 0)) :: .r 8 (.mv (.t 1)) :: .r 9 (.bin .lss (.t 7) (.t 8)) :: .r 10 (.mv (.t 9)) :: gapp [11, 12, 13] 10 false (.r 11 (.mv (.t 0)) :: .r 12 (.mv (.t 2)) :: .r 13 (.bin .gtr (.t 11) (.t 12)) :: []) (.r 14 (.pick (.t 10) (.c (.d (.bool true))) (.t 13)) :: .r 6 (.mv (.t 14)) :: [])))
  .ret))
theorem fit_kit_Outside : fits Tryd.prog 31 Tryd.f31 sc_kit_Outside [.t 6] 3 = true := by kernel_rfl

/-- interchange/reply.stateOf -/
def sc_reply_stateOf : SC :=
  (.seq (.reg [.r 2 (.boxI (.t 0)),
     .r 4 (.mv (.c (.d (.int .i64 0))))])
  (.seq (.block 0 (.seq (.reg [.r 6 (.fld 3 (.t 2)),
       .o 7 (.ld1 (.t 6)),
       .r 8 (.bin .geq (.t 7) (.c (.d (.int .i64 0)))),
       .r 5 (.mv (.t 8))])
    (.cond (.t 5)
      (.seq (.reg [.r 4 (.mv (.c (.d (.int .i64 3))))])
      .ret)
      (.seq (.reg [.r 10 (.mv (.t 1)),
         .r 11 (.fld 2 (.t 2)),
         .o 12 (.ld1 (.t 11)),
         .r 13 (.bin .gtr (.t 10) (.t 12)),
         .r 9 (.mv (.t 13))])
      (.cond (.t 9)
        (.seq (.reg [.r 4 (.mv (.c (.d (.int .i64 2))))])
        .ret)
        .skip)))))
  (.seq (.reg [.r 4 (.mv (.c (.d (.int .i64 1))))])
  .ret)))
theorem fit_reply_stateOf : fits Tryd.prog 33 Tryd.f33 sc_reply_stateOf [.t 4] 2 = true := by kernel_rfl

/-- interchange/interchangeref7.within -/
def sc_interchangeref7_within : SC :=
  (.seq (.reg [.r 6 (.mv (.c (.d (.bool false))))])
  (.seq (.reg (.r 7 (.mv (.t 0)) :: .r 8 (.mv (.t 1)) :: .r 9 (.bin .geq (.t 7) (.t 8)) :: .r 10 (.mv (.t 9)) :: gapp [11, 12, 13] 10 true (.r 11 (.mv (.t 0)) :: .r 12 (.mv (.t 2)) :: .r 13 (.bin .leq (.t 11) (.t 12)) :: []) (.r 14 (.pick (.t 10) (.t 13) (.c (.d (.bool false)))) :: .r 6 (.mv (.t 14)) :: [])))
  .ret))
theorem fit_interchangeref7_within : fits Tryd.prog 35 Tryd.f35 sc_interchangeref7_within [.t 6] 3 = true := by kernel_rfl

def sc_interchangeref2_IsReference_L1 : SC :=
  (.seq (.seq (.reg [.r 4 (.mv (.t 3)),
     .r 5 (.mv (.t 0)),
     .r 6 (.lenT (.t 5)),
     .r 7 (.bin .lss (.t 4) (.t 6))])
  (.cond (.t 7)
    .skip
    (.exit 0)))
  (.seq (.block 1 (.seq (.reg (.r 10 (.mv (.t 0)) :: .r 11 (.mv (.t 3)) :: .r 12 (.sidx (.t 10) (.t 11)) :: .r 13 (.bin .geq (.t 12) (.c (.d (.int .u8 65)))) :: .r 14 (.mv (.t 13)) :: gapp [15, 16, 17, 18] 14 true (.r 15 (.mv (.t 0)) :: .r 16 (.mv (.t 3)) :: .r 17 (.sidx (.t 15) (.t 16)) :: .r 18 (.bin .leq (.t 17) (.c (.d (.int .u8 90)))) :: []) (.r 19 (.pick (.t 14) (.t 18) (.c (.d (.bool false)))) :: .r 20 (.mv (.t 19)) :: gapp [21, 22, 23, 24, 25, 26, 27, 28, 29, 30] 20 false (.r 21 (.mv (.t 0)) :: .r 22 (.mv (.t 3)) :: .r 23 (.sidx (.t 21) (.t 22)) :: .r 24 (.bin .geq (.t 23) (.c (.d (.int .u8 48)))) :: .r 25 (.mv (.t 24)) :: gapp [26, 27, 28, 29] 25 true (.r 26 (.mv (.t 0)) :: .r 27 (.mv (.t 3)) :: .r 28 (.sidx (.t 26) (.t 27)) :: .r 29 (.bin .leq (.t 28) (.c (.d (.int .u8 57)))) :: []) (.r 30 (.pick (.t 25) (.t 29) (.c (.d (.bool false)))) :: [])) (.r 31 (.pick (.t 20) (.c (.d (.bool true))) (.t 30)) :: .r 32 (.mv (.t 31)) :: gapp [33, 34, 35, 36] 32 false (.r 33 (.mv (.t 0)) :: .r 34 (.mv (.t 3)) :: .r 35 (.sidx (.t 33) (.t 34)) :: .r 36 (.bin .eql (.t 35) (.c (.d (.int .u8 45)))) :: []) (.r 37 (.pick (.t 32) (.c (.d (.bool true))) (.t 36)) :: .r 38 (.not (.t 37)) :: [])))))
    (.cond (.t 38)
      (.seq (.reg [.r 2 (.mv (.c (.d (.bool false))))])
      .ret)
      .skip)))
  (.reg [.r 8 (.mv (.t 3)),
     .r 9 (.bin .add (.t 8) (.c (.d (.int .i64 1)))),
     .r 3 (.mv (.t 9))])))
def sc_interchangeref2_IsReference_B1 : SC := .block 0 (.loop sc_interchangeref2_IsReference_L1)
/-- interchange/interchangeref2.IsReference -/
def sc_interchangeref2_IsReference : SC :=
  (.seq (.reg [.r 2 (.mv (.c (.d (.bool false))))])
  (.seq (.seq (.reg [.r 3 (.mv (.c (.d (.int .i64 0))))])
  sc_interchangeref2_IsReference_B1)
  (.seq (.reg (.r 39 (.mv (.t 0)) :: .r 40 (.bin .neq (.t 39) (.c (.d (.str [])))) :: .r 41 (.mv (.t 40)) :: gapp [42, 43, 44] 41 true (.r 42 (.mv (.t 0)) :: .r 43 (.lenT (.t 42)) :: .r 44 (.bin .leq (.t 43) (.c (.d (.int .i64 14)))) :: []) (.r 45 (.pick (.t 41) (.t 44) (.c (.d (.bool false)))) :: .r 2 (.mv (.t 45)) :: [])))
  .ret)))
theorem fit_interchangeref2_IsReference : fits Tryd.prog 78 Tryd.f78 sc_interchangeref2_IsReference [.t 2] 1 = true := by kernel_rfl

def sc_interchangeref7_book_L1 : SC :=
  (.seq (.seq (.regD (.r 51 (.mv (.t 9)) :: .r 52 (.bin .geq (.t 51) (.c (.d (.int .i64 0)))) :: .r 53 (.mv (.t 52)) :: gapp [54, 55, 56, 57, 58, 59, 60, 61, 62, 63, 64, 65, 66, 67, 68, 69, 70, 71, 72] 53 true (.r 54 (.mv (.t 6)) :: .r 55 (.mv (.t 9)) :: .r 56 (.idx 5 (.t 54) (.t 55)) :: .r 57 (.fld 0 (.t 56)) :: .r 58 (.ld1 (.t 57)) :: .r 59 (.mv (.t 0)) :: .r 60 (.mv (.t 8)) :: .r 61 (.idx 5 (.t 59) (.t 60)) :: .r 62 (.fld 3 (.t 61)) :: .r 63 (.ld1 (.t 62)) :: .r 64 (.bin .neq (.t 58) (.t 63)) :: .r 65 (.mv (.t 64)) :: gapp [66, 67, 68, 69, 70, 71] 65 false (.r 66 (.mv (.t 6)) :: .r 67 (.mv (.t 9)) :: .r 68 (.idx 5 (.t 66) (.t 67)) :: .r 69 (.fld 3 (.t 68)) :: .r 70 (.ld1 (.t 69)) :: .r 71 (.bin .geq (.t 70) (.c (.d (.int .i64 0)))) :: []) (.r 72 (.pick (.t 65) (.c (.d (.bool true))) (.t 71)) :: [])) (.r 73 (.pick (.t 53) (.t 72) (.c (.d (.bool false)))) :: [])))
  (.cond (.t 73)
    .skip
    (.exit 2)))
  (.block 3 (.reg [.r 74 (.mv (.t 9)),
       .r 75 (.bin .sub (.t 74) (.c (.d (.int .i64 1)))),
       .r 9 (.mv (.t 75))])))
def sc_interchangeref7_book_B1 : SC := .block 2 (.loop sc_interchangeref7_book_L1)
def sc_interchangeref7_book_L2 : SC :=
  (.seq (.seq (.reg [.r 10 (.mv (.t 8)),
     .r 11 (.mv (.t 0)),
     .r 12 (.len (.t 11)),
     .r 13 (.bin .lss (.t 10) (.t 12))])
  (.cond (.t 13)
    .skip
    (.exit 0)))
  (.seq (.block 1 (.seq (.seq (.reg [.r 16 (.mv (.t 0)),
       .r 17 (.mv (.t 8)),
       .r 18 (.idx 5 (.t 16) (.t 17)),
       .r 19 (.fld 1 (.t 18)),
       .o 20 (.ld1 (.t 19)),
       .r 21 (.mv (.t 1)),
       .r 22 (.bin .gtr (.t 20) (.t 21))])
    (.cond (.t 22)
      (.exit 1)
      .skip))
    (.seq (.seq (.reg [.r 23 (.mv (.t 0)),
       .r 24 (.mv (.t 8)),
       .r 25 (.idx 5 (.t 23) (.t 24)),
       .r 26 (.fld 0 (.t 25)),
       .o 27 (.ld1 (.t 26)),
       .r 28 (.bin .eql (.t 27) (.c (.d (.int .i64 1))))])
    (.cond (.t 28)
      (.seq (.regE [.r 29 (.mv (.t 6)),
         .r 30 (.mv (.t 0)),
         .r 31 (.mv (.t 8)),
         .r 32 (.idx 5 (.t 30) (.t 31)),
         .r 33 (.fld 3 (.t 32)),
         .r 34 (.ld1 (.t 33)),
         .r 35 (.mv (.t 0)),
         .r 36 (.mv (.t 8)),
         .r 37 (.idx 5 (.t 35) (.t 36)),
         .r 38 (.fld 1 (.t 37)),
         .r 39 (.ld1 (.t 38)),
         .r 40 (.mv (.t 0)),
         .r 41 (.mv (.t 8)),
         .r 42 (.idx 5 (.t 40) (.t 41)),
         .r 43 (.fld 2 (.t 42)),
         .r 44 (.ld1 (.t 43)),
         .r 45 (.build [.d (.str []), .d (.int .i64 0), .d (.int .i64 0), .d (.int .i64 0), .d (.int .i64 0)] [(0, 1, .t 34), (1, 1, .t 39), (2, 1, .t 44), (3, 1, .c (.d (.int .i64 (-1))))]),
         .r 46 (.bslice 5 [.t 45]),
         .x 47 (.app 72 5 (.t 29) (.t 46)) [],
         .r 6 (.mv (.t 47))])
      (.exit 1))
      .skip))
    (.seq (.reg [.r 48 (.mv (.t 6)),
       .r 49 (.len (.t 48)),
       .r 50 (.bin .sub (.t 49) (.c (.d (.int .i64 1)))),
       .r 9 (.mv (.t 50))])
    (.seq sc_interchangeref7_book_B1
    (.seq (.reg [.r 76 (.mv (.t 9)),
       .r 77 (.bin .lss (.t 76) (.c (.d (.int .i64 0))))])
    (.cond (.t 77)
      (.reg [.r 78 (.mv (.t 7)),
         .r 79 (.mv (.t 8)),
         .r 80 (.bslice 1 [.t 79]),
         .w 81 (.app 3 1 (.t 78) (.t 80)),
         .r 7 (.mv (.t 81))])
      (.regE [.r 82 (.mv (.t 6)),
         .r 83 (.mv (.t 9)),
         .r 84 (.mv (.t 6)),
         .r 85 (.mv (.t 9)),
         .r 86 (.mv (.t 0)),
         .r 87 (.mv (.t 8)),
         .r 88 (.idx 5 (.t 86) (.t 87)),
         .r 89 (.fld 1 (.t 88)),
         .r 90 (.ld1 (.t 89)),
         .r 91 (.mv (.t 0)),
         .r 92 (.mv (.t 8)),
         .r 93 (.idx 5 (.t 91) (.t 92)),
         .r 94 (.fld 4 (.t 93)),
         .r 95 (.ld1 (.t 94)),
         .r 96 (.idx 5 (.t 82) (.t 83)),
         .r 97 (.fld 3 (.t 96)),
         .x 0 (.st 1 (.t 97) (.t 90)) [(2, 84, .mv (.t 6)), (3, 85, .mv (.t 9))],
         .r 98 (.idx 5 (.t 84) (.t 85)),
         .r 99 (.fld 4 (.t 98)),
         .x 0 (.st 1 (.t 99) (.t 95)) []]))))))))
  (.reg [.r 14 (.mv (.t 8)),
     .r 15 (.bin .add (.t 14) (.c (.d (.int .i64 1)))),
     .r 8 (.mv (.t 15))])))
def sc_interchangeref7_book_B2 : SC := .block 0 (.loop sc_interchangeref7_book_L2)
/-- interchange/interchangeref7.book -/
def sc_interchangeref7_book : SC :=
  (.seq (.reg [.r 4 (.mv (.c (.nils))),
     .r 5 (.mv (.c (.nils)))])
  (.seq (.reg [.r 6 (.mv (.c (.nils)))])
  (.seq (.reg [.r 7 (.mv (.c (.nils)))])
  (.seq (.seq (.reg [.r 8 (.mv (.c (.d (.int .i64 0))))])
  sc_interchangeref7_book_B2)
  (.seq (.reg [.r 100 (.mv (.t 6)),
     .r 101 (.mv (.t 7)),
     .r 4 (.mv (.t 100)),
     .r 5 (.mv (.t 101))])
  .ret)))))
theorem fit_interchangeref7_book : fits Tryd.prog 36 Tryd.f36 sc_interchangeref7_book [.t 4, .t 5] 2 = true := by kernel_rfl

/-- interchange/interchangeref7.state -/
def sc_interchangeref7_state : SC :=
  (.seq (.reg [.r 2 (.boxI (.t 0)),
     .r 4 (.mv (.c (.d (.int .i64 0))))])
  (.seq (.seq (.reg [.r 5 (.fld 3 (.t 2)),
     .o 6 (.ld1 (.t 5)),
     .r 7 (.bin .geq (.t 6) (.c (.d (.int .i64 0))))])
  (.cond (.t 7)
    (.seq (.reg [.r 4 (.mv (.c (.d (.int .i64 3))))])
    .ret)
    .skip))
  (.seq (.seq (.reg [.r 8 (.mv (.t 1)),
     .r 9 (.fld 2 (.t 2)),
     .o 10 (.ld1 (.t 9)),
     .r 11 (.bin .gtr (.t 8) (.t 10))])
  (.cond (.t 11)
    (.seq (.reg [.r 4 (.mv (.c (.d (.int .i64 2))))])
    .ret)
    .skip))
  (.seq (.reg [.r 4 (.mv (.c (.d (.int .i64 1))))])
  .ret))))
theorem fit_interchangeref7_state : fits Tryd.prog 37 Tryd.f37 sc_interchangeref7_state [.t 4] 2 = true := by kernel_rfl

def sc_slices_Equal_string_string_L1 : SC :=
  (.seq (.reg [.r 14 (.bin .lss (.t 13) (.t 12))])
  (.seq (.cond (.t 14)
    .skip
    (.exit 0))
  (.seq (.block 1 (.seq (.reg [.r 15 (.mv (.t 13)),
       .r 5 (.mv (.t 15))])
    (.seq (.regD [.r 16 (.mv (.t 0)),
       .r 17 (.mv (.t 5)),
       .r 18 (.idx 1 (.t 16) (.t 17)),
       .r 19 (.ld1 (.t 18)),
       .r 20 (.mv (.t 1)),
       .r 21 (.mv (.t 5)),
       .r 22 (.idx 1 (.t 20) (.t 21)),
       .r 23 (.ld1 (.t 22)),
       .r 24 (.bin .neq (.t 19) (.t 23))])
    (.cond (.t 24)
      (.seq (.reg [.r 4 (.mv (.c (.d (.bool false))))])
      .ret)
      .skip))))
  (.reg [.r 25 (.bin .add (.t 13) (.c (.d (.int .i64 1)))),
     .r 13 (.mv (.t 25))]))))
def sc_slices_Equal_string_string_B1 : SC := .block 0 (.loop sc_slices_Equal_string_string_L1)
/-- slices.Equal[[]string,string] -/
def sc_slices_Equal_string_string : SC :=
  (.seq (.reg [.r 4 (.mv (.c (.d (.bool false))))])
  (.seq (.seq (.reg [.r 6 (.mv (.t 0)),
     .r 7 (.len (.t 6)),
     .r 8 (.mv (.t 1)),
     .r 9 (.len (.t 8)),
     .r 10 (.bin .neq (.t 7) (.t 9))])
  (.cond (.t 10)
    (.seq (.reg [.r 4 (.mv (.c (.d (.bool false))))])
    .ret)
    .skip))
  (.seq (.seq (.reg [.r 11 (.mv (.t 0)),
     .r 12 (.len (.t 11)),
     .r 13 (.mv (.c (.d (.int .i64 0))))])
  sc_slices_Equal_string_string_B1)
  (.seq (.reg [.r 4 (.mv (.c (.d (.bool true))))])
  .ret))))
theorem fit_slices_Equal_string_string : fits Tryd.prog 14 Tryd.f14 sc_slices_Equal_string_string [.t 4] 2 = true := by kernel_rfl

set_option maxRecDepth 100000 in
set_option maxHeartbeats 40000000 in
noncomputable def sims_G1_0_0 : (∀ (x0 : Int) (x1 : Int) (x2 : Int), {m : Option (Bool) // ∀ r, m = some r → PureSpec Tryd.prog 31 [.int .i64 x0, .int .i64 x1, .int .i64 x2] (.bool r)}) × (∀ (x0 : Tapi_Sending) (x1 : Int), {m : Option (Int) // ∀ r, m = some r → PureSpec Tryd.prog 33 [.agg (rTapi_Sending x0), .int .i64 x1] (.int .i64 r)}) × (∀ (x0 : Int) (x1 : Int) (x2 : Int), {m : Option (Bool) // ∀ r, m = some r → PureSpec Tryd.prog 35 [.int .i64 x0, .int .i64 x1, .int .i64 x2] (.bool r)}) × (∀ (x0 : List UInt8), {m : Option (Bool) // ∀ r, m = some r → PureSpec Tryd.prog 78 [.str x0] (.bool r)}) × (∀ (x0 : List Tapi_BookEvent) (x1 : Int), {m : Option ((List Tapi_Sending) × (List Int)) // ∀ r, m = some r → PureSpec Tryd.prog 36 [.slice (List.map rTapi_BookEvent x0), .int .i64 x1] (.tup [.slice (List.map rTapi_Sending r.1), .slice (List.map rowI r.2)])}) × (∀ (x0 : Tapi_Sending) (x1 : Int), {m : Option (Int) // ∀ r, m = some r → PureSpec Tryd.prog 37 [.agg (rTapi_Sending x0), .int .i64 x1] (.int .i64 r)}) × (∀ (x0 : List (List UInt8)) (x1 : List (List UInt8)), {m : Option (Bool) // ∀ r, m = some r → PureSpec Tryd.prog 14 [.slice (List.map rowS x0), .slice (List.map rowS x1)] (.bool r)}) := by
  refine ⟨?g0, ?g1, ?g2, ?g3, ?g4, ?g5, ?g6⟩
  case' g0 => (intro x0 x1 x2; apply Subtype.mk; intro r hm; apply pure_walk Tryd.func31 fit_kit_Outside; unfold sc_kit_Outside)
  case' g1 => (intro x0 x1; apply Subtype.mk; intro r hm; apply pure_walk Tryd.func33 fit_reply_stateOf; unfold sc_reply_stateOf)
  case' g2 => (intro x0 x1 x2; apply Subtype.mk; intro r hm; apply pure_walk Tryd.func35 fit_interchangeref7_within; unfold sc_interchangeref7_within)
  case' g3 => (intro x0; apply Subtype.mk; intro r hm; apply pure_walk Tryd.func78 fit_interchangeref2_IsReference; unfold sc_interchangeref2_IsReference)
  case' g4 => (intro x0 x1; apply Subtype.mk; intro r hm; apply pure_walk Tryd.func36 fit_interchangeref7_book; unfold sc_interchangeref7_book)
  case' g5 => (intro x0 x1; apply Subtype.mk; intro r hm; apply pure_walk Tryd.func37 fit_interchangeref7_state; unfold sc_interchangeref7_state)
  case' g6 => (intro x0 x1; apply Subtype.mk; intro r hm; apply pure_walk Tryd.func14 fit_slices_Equal_string_string; unfold sc_slices_Equal_string_string)
  all_goals (repeat' (first | with_reducible refine W_seq ?_ | with_reducible refine W_reg ?_ | with_reducible refine W_regD ?_ | with_reducible refine W_regE ?_ | with_reducible refine W_block ?_ | with_reducible refine W_skip ?_ | with_reducible refine W_ret ?_ | with_reducible refine W_exit ?_ | with_reducible refine O_nil ?_ | with_reducible refine K_seq ?_ | with_reducible refine K_seqE ?_ | with_reducible refine K_seqR ?_ | with_reducible refine K_block ?_ | with_reducible refine K_blockR ?_ | with_reducible refine K_blockE ?_ | with_reducible refine O_o2r ?_ | ((with_reducible apply O_idxr hm); (iterate 2 (simp only [push_cast, seval]; rfl)); (intro _; rfl); intro e hm) | ((with_reducible apply O_idxVr hm); (iterate 3 (simp only [push_cast, seval]; rfl)); intro e hm) | ((with_reducible apply O_sidxr hm); (iterate 2 (simp only [push_cast, seval]; rfl)); intro e hm) | ((with_reducible apply O_r); (simp only [push_cast, seval]; rfl); (first | exact trivial)) | ((with_reducible apply O_ldV1r hm); (iterate 2 (simp only [push_cast, seval]; rfl)); (intro _; rfl); intro e hm) | ((with_reducible apply O_and hm); (simp only [push_cast, seval]; rfl); rfl; intro v hm; rotate_left; intro v g hm) | ((with_reducible apply O_or hm); (simp only [push_cast, seval]; rfl); rfl; intro v hm; rotate_left; intro v g hm) | ((with_reducible apply O_appV hm); (iterate 4 (simp only [push_cast, seval]; rfl)); (focus ((repeat' (first | rfl | (with_reducible first | apply dv_slice | apply fold_nil | apply fold_cons))); done)); decide; (intro _; rfl); intro hm) | ((with_reducible apply O_appVX hm); (iterate 2 (simp only [push_cast, seval]; rfl)); (focus ((repeat' (first | rfl)); done)); (simp only [push_cast, seval]; rfl); (focus ((repeat' (first | rfl | (with_reducible first | apply eR_nil | apply eR_cons | apply eT_Tapi_Sending))); done)); (intro _; rfl); (focus ((repeat' (first | exact Rer_nil)); done)); intro hm) | ((with_reducible apply O_stVX hm); (iterate 3 (simp only [push_cast, seval]; rfl)); rfl; (intro _; rfl); rfl; (focus (intro a; simp only [push_cast, seval]; rfl)); (focus (intro a; (repeat' (first | rfl | with_reducible apply eT_Tapi_Sending)); done)); (focus (intro _; (repeat' (first | exact Rer_nil | ((with_reducible apply Rer_cons); (focus (simp only [push_cast, seval]; rfl)); (focus (first | exact trivial)); (focus (simp only [push_cast, seval]))))); done)); intro e hm) | ((with_reducible apply S_condB hm); (simp only [push_cast, seval]; rfl); intro hm; rotate_left; intro hm) | ((with_reducible apply K_end2 hm); (focus (simp only [resOf, resL, RV.get, push_cast, seval]; rfl)); (focus (first | (dsimp only; done))); (focus ((repeat' (first | rfl)); done))) | ((with_reducible apply K_endS hm); (focus (simp only [resOf, resL, RV.get, push_cast, seval]; rfl)); (focus ((repeat' (first | rfl)); done))) | ((with_reducible apply K_bool hm); (simp only [push_cast, seval]; rfl)) | ((with_reducible apply K_leave hm); intro r hm) | ((with_reducible apply K_leaveR hm); intro r hm) | ((apply S_loopY (b := 0) (X := sc_interchangeref2_IsReference_B1) (x := sc_interchangeref2_IsReference_L1) rfl (fun (c : SV) (s : Int) => st [(0, c), (3, .d (.int .i64 s))] []) (c := _) (s0 := _) hm); (focus (first | (dsimp only; done))); (with_reducible refine Then.mk ?_ ?_)) | ((apply S_loopY (b := 2) (X := sc_interchangeref7_book_B1) (x := sc_interchangeref7_book_L1) rfl (fun (c : SV × SV × Ch × Ch × SV) (s : Int) => st [(0, c.1), (1, c.2.1), (6, .vec 6), (7, .vec 7), (8, c.2.2.2.2), (9, .d (.int .i64 s))] [(6, c.2.2.1), (7, c.2.2.2.1)]) (c := (_, _, _, _, _)) (s0 := _) hm); (focus (first | (dsimp only; done))); (with_reducible refine Then.mk ?_ ?_)) | ((apply S_loopY (b := 0) (X := sc_interchangeref7_book_B2) (x := sc_interchangeref7_book_L2) rfl (fun (c : SV × SV) (s : (List Tapi_Sending) × (List Int) × Int) => st [(0, c.1), (1, c.2), (6, .vec 6), (7, .vec 7), (8, .d (.int .i64 s.2.2))] [(6, .vec 72 5 (vrow rTapi_Sending s.1)), (7, .vec 3 1 (vrow rowI s.2.1))]) (c := (_, _)) (s0 := (_, _, _)) hm); (focus (first | (dsimp only; done))); (with_reducible refine Then.mk ?_ ?_); apply Imp.trans; (focus (apply imp_vecnil (slot := 6) (id := 6) (e := 72) (sz := 5); (focus (simp only [push_cast, seval]; done)))); apply Imp.trans; (focus (apply imp_vecnil (slot := 7) (id := 7) (e := 3) (sz := 1); (focus (simp only [push_cast, seval]; done))))) | ((apply S_loopY (b := 0) (X := sc_slices_Equal_string_string_B1) (x := sc_slices_Equal_string_string_L1) rfl (fun (c : SV × SV × SV) (s : Int) => st [(0, c.1), (1, c.2.1), (12, c.2.2), (13, .d (.int .i64 s))] []) (c := (_, _, _)) (s0 := _) hm); (focus (first | (dsimp only; done))); (with_reducible refine Then.mk ?_ ?_)) | ((apply K_next (s' := (_, _, _)) hm); (focus (first | (dsimp only; done)))) | ((apply K_brk (s' := (_, _, _)) hm); (focus (first | (dsimp only; done)))) | ((apply K_next (s' := _) hm); (focus (first | (dsimp only; done)))) | ((apply K_brk (s' := _) hm); (focus (first | (dsimp only; done)))) | (((with_reducible apply K_brkR hm); intro r hm)) | (((with_reducible apply LoopB.of); (focus (first | (dsimp only; done))); (focus ((intro _; repeat' (first | with_reducible exact impC_end | with_reducible refine impC_seq ?_ | with_reducible refine impC_block ?_ | ((with_reducible refine impC_rnd ?_); intro _) | ((with_reducible refine impC_brk ?_); intro _))))); (intro s o hm; first | unfold sc_interchangeref2_IsReference_L1 | unfold sc_interchangeref7_book_L1 | unfold sc_interchangeref7_book_L2 | unfold sc_slices_Equal_string_string_L1); rotate_left; intro s hm)) | (((apply imp_stT; (repeat' (first | with_reducible exact keepT_nil | with_reducible exact keepC_nil | with_reducible apply keepT_cons | with_reducible apply keepC_cons | ((with_reducible apply svle_eq); (focus (first | (simp only [push_cast, seval]; rfl))); (focus ((repeat' (first | rfl)); done))) | ((with_reducible apply chle_eq); (focus (first | (simp only [push_cast, seval]; rfl))); (first | with_reducible exact chle_rfl rfl | with_reducible apply chle_vec)) | (with_reducible first | apply r_nil))); done)))))
noncomputable def m_kit_Outside (x0 : Int) (x1 : Int) (x2 : Int) : Option (Bool) := (sims_G1_0_0.1 x0 x1 x2).1
theorem spec_kit_Outside (x0 : Int) (x1 : Int) (x2 : Int) : ∀ r, m_kit_Outside x0 x1 x2 = some r → PureSpec Tryd.prog 31 [.int .i64 x0, .int .i64 x1, .int .i64 x2] (.bool r) := (sims_G1_0_0.1 x0 x1 x2).2
noncomputable def m_reply_stateOf (x0 : Tapi_Sending) (x1 : Int) : Option (Int) := (sims_G1_0_0.2.1 x0 x1).1
theorem spec_reply_stateOf (x0 : Tapi_Sending) (x1 : Int) : ∀ r, m_reply_stateOf x0 x1 = some r → PureSpec Tryd.prog 33 [.agg (rTapi_Sending x0), .int .i64 x1] (.int .i64 r) := (sims_G1_0_0.2.1 x0 x1).2
noncomputable def m_interchangeref7_within (x0 : Int) (x1 : Int) (x2 : Int) : Option (Bool) := (sims_G1_0_0.2.2.1 x0 x1 x2).1
theorem spec_interchangeref7_within (x0 : Int) (x1 : Int) (x2 : Int) : ∀ r, m_interchangeref7_within x0 x1 x2 = some r → PureSpec Tryd.prog 35 [.int .i64 x0, .int .i64 x1, .int .i64 x2] (.bool r) := (sims_G1_0_0.2.2.1 x0 x1 x2).2
noncomputable def m_interchangeref2_IsReference (x0 : List UInt8) : Option (Bool) := (sims_G1_0_0.2.2.2.1 x0).1
theorem spec_interchangeref2_IsReference (x0 : List UInt8) : ∀ r, m_interchangeref2_IsReference x0 = some r → PureSpec Tryd.prog 78 [.str x0] (.bool r) := (sims_G1_0_0.2.2.2.1 x0).2
noncomputable def m_interchangeref7_book (x0 : List Tapi_BookEvent) (x1 : Int) : Option ((List Tapi_Sending) × (List Int)) := (sims_G1_0_0.2.2.2.2.1 x0 x1).1
theorem spec_interchangeref7_book (x0 : List Tapi_BookEvent) (x1 : Int) : ∀ r, m_interchangeref7_book x0 x1 = some r → PureSpec Tryd.prog 36 [.slice (List.map rTapi_BookEvent x0), .int .i64 x1] (.tup [.slice (List.map rTapi_Sending r.1), .slice (List.map rowI r.2)]) := (sims_G1_0_0.2.2.2.2.1 x0 x1).2
noncomputable def m_interchangeref7_state (x0 : Tapi_Sending) (x1 : Int) : Option (Int) := (sims_G1_0_0.2.2.2.2.2.1 x0 x1).1
theorem spec_interchangeref7_state (x0 : Tapi_Sending) (x1 : Int) : ∀ r, m_interchangeref7_state x0 x1 = some r → PureSpec Tryd.prog 37 [.agg (rTapi_Sending x0), .int .i64 x1] (.int .i64 r) := (sims_G1_0_0.2.2.2.2.2.1 x0 x1).2
noncomputable def m_slices_Equal_string_string (x0 : List (List UInt8)) (x1 : List (List UInt8)) : Option (Bool) := (sims_G1_0_0.2.2.2.2.2.2 x0 x1).1
theorem spec_slices_Equal_string_string (x0 : List (List UInt8)) (x1 : List (List UInt8)) : ∀ r, m_slices_Equal_string_string x0 x1 = some r → PureSpec Tryd.prog 14 [.slice (List.map rowS x0), .slice (List.map rowS x1)] (.bool r) := (sims_G1_0_0.2.2.2.2.2.2 x0 x1).2

def sc_reply_book_R8 : SC :=
  (.regE [.r 22 (.mv (.t 6)),
   .r 23 (.fld 3 (.t 8)),
   .r 24 (.ld1 (.t 23)),
   .r 25 (.mv (.t 6)),
   .r 26 (.fld 3 (.t 8)),
   .r 27 (.ld1 (.t 26)),
   .r 28 (.look .str (.nils) false (.t 25) (.t 27)),
   .r 29 (.mv (.t 4)),
   .r 30 (.len (.t 29)),
   .r 31 (.bslice 1 [.t 30]),
   .x 32 (.app 3 1 (.t 28) (.t 31)) [(0, 22, .mv (.t 6)), (1, 23, .fld 3 (.t 8)), (2, 24, .ld1 (.t 23))],
   .x 0 (.mset .str (.t 22) (.t 24) (.t 32)) []])
def sc_reply_book_L1 : SC :=
  (.seq (.reg [.r 15 (.bin .lss (.t 14) (.t 13))])
  (.seq (.cond (.t 15)
    .skip
    (.exit 0))
  (.seq (.block 1 (.seq (.reg [.r 16 (.mv (.t 14)),
       .r 17 (.idx 5 (.t 12) (.t 14)),
       .o 18 (.ldA 5 (.t 17)),
       .w 8 (.boxM (.c (.agg [.d (.int .i64 0), .d (.int .i64 0), .d (.int .i64 0), .d (.str []), .d (.int .i64 0)]))),
       .r 7 (.mv (.t 16)),
       .w 0 (.st 5 (.t 8) (.t 18))])
    (.seq (.seq (.reg [.r 19 (.fld 0 (.t 8)),
       .o 20 (.ld1 (.t 19)),
       .r 21 (.bin .eql (.t 20) (.c (.d (.int .i64 1))))])
    (.cond (.t 21)
      (.seq sc_reply_book_R8
      (.seq (.reg [.r 33 (.mv (.t 4)),
         .r 34 (.fld 3 (.t 8)),
         .o 35 (.ld1 (.t 34)),
         .r 36 (.fld 1 (.t 8)),
         .o 37 (.ld1 (.t 36)),
         .r 38 (.fld 2 (.t 8)),
         .o 39 (.ld1 (.t 38)),
         .r 40 (.build [.d (.str []), .d (.int .i64 0), .d (.int .i64 0), .d (.int .i64 0), .d (.int .i64 0)] [(0, 1, .t 35), (1, 1, .t 37), (2, 1, .t 39), (3, 1, .c (.d (.int .i64 (-1))))]),
         .r 41 (.bslice 5 [.t 40]),
         .w 42 (.app 72 5 (.t 33) (.t 41)),
         .r 4 (.mv (.t 42))])
      (.exit 1)))
      .skip))
    (.seq (.reg [.r 43 (.mv (.t 6)),
       .r 44 (.fld 3 (.t 8)),
       .o 45 (.ld1 (.t 44)),
       .o 46 (.look .str (.nils) false (.t 43) (.t 45)),
       .r 9 (.mv (.t 46))])
    (.seq (.seq (.reg [.r 47 (.mv (.t 9)),
       .r 48 (.len (.t 47)),
       .r 49 (.bin .eql (.t 48) (.c (.d (.int .i64 0))))])
    (.cond (.t 49)
      (.seq (.reg [.r 50 (.mv (.t 5)),
         .r 51 (.mv (.t 7)),
         .r 52 (.bslice 1 [.t 51]),
         .w 53 (.app 3 1 (.t 50) (.t 52)),
         .r 5 (.mv (.t 53))])
      (.exit 1))
      .skip))
    (.seq (.reg [.r 54 (.mv (.t 4)),
       .r 55 (.mv (.t 9)),
       .r 56 (.mv (.t 9)),
       .r 57 (.len (.t 56)),
       .r 58 (.bin .sub (.t 57) (.c (.d (.int .i64 1)))),
       .r 59 (.idx 1 (.t 55) (.t 58)),
       .o 60 (.ld1 (.t 59)),
       .r 61 (.idx 5 (.t 54) (.t 60)),
       .r 10 (.mv (.t 61))])
    (.seq (.regE [.r 62 (.mv (.t 10)),
       .r 63 (.mv (.t 10)),
       .r 64 (.fld 1 (.t 8)),
       .r 65 (.ld1 (.t 64)),
       .r 66 (.fld 4 (.t 8)),
       .r 67 (.ld1 (.t 66)),
       .r 68 (.nilc (.t 62)),
       .r 69 (.fld 3 (.t 68)),
       .x 0 (.st 1 (.t 69) (.t 65)) [(1, 63, .mv (.t 10)), (4, 66, .fld 4 (.t 8)), (5, 67, .ld1 (.t 66))],
       .r 70 (.nilc (.t 63)),
       .r 71 (.fld 4 (.t 70)),
       .x 0 (.st 1 (.t 71) (.t 67)) []])
    (.regE [.r 72 (.mv (.t 6)),
       .r 73 (.fld 3 (.t 8)),
       .r 74 (.ld1 (.t 73)),
       .r 75 (.mv (.t 9)),
       .r 76 (.mv (.t 9)),
       .r 77 (.len (.t 76)),
       .r 78 (.bin .sub (.t 77) (.c (.d (.int .i64 1)))),
       .x 79 (.trunc 1 (.t 75) (.t 78)) [(0, 72, .mv (.t 6)), (1, 73, .fld 3 (.t 8)), (2, 74, .ld1 (.t 73))],
       .x 0 (.mset .str (.t 72) (.t 74) (.t 79)) []]))))))))
  (.reg [.r 80 (.bin .add (.t 14) (.c (.d (.int .i64 1)))),
     .r 14 (.mv (.t 80))]))))
def sc_reply_book_B1 : SC := .block 0 (.loop sc_reply_book_L1)
/-- interchange/reply.book -/
def sc_reply_book : SC :=
  (.seq (.reg [.r 2 (.mv (.c (.nils))),
     .r 3 (.mv (.c (.nils)))])
  (.seq (.reg [.r 4 (.mv (.c (.nils)))])
  (.seq (.reg [.r 5 (.mv (.c (.nils)))])
  (.seq (.reg [.w 11 (.mkmap .str),
     .r 6 (.mv (.t 11))])
  (.seq (.seq (.reg [.r 12 (.mv (.t 0)),
     .r 13 (.len (.t 12)),
     .r 14 (.mv (.c (.d (.int .i64 0))))])
  sc_reply_book_B1)
  (.seq (.reg [.r 81 (.mv (.t 4)),
     .r 82 (.mv (.t 5)),
     .r 2 (.mv (.t 81)),
     .r 3 (.mv (.t 82))])
  .ret))))))
theorem fit_reply_book : fits Tryd.prog 52 Tryd.f52 sc_reply_book [.t 2, .t 3] 1 = true := by kernel_rfl

set_option maxRecDepth 100000 in
set_option maxHeartbeats 40000000 in
noncomputable def sims_G1_0_1 : (∀ (x0 : List Tapi_BookEvent), {m : Option ((List Tapi_Sending) × (List Int)) // ∀ r, m = some r → PureSpec Tryd.prog 52 [.slice (List.map rTapi_BookEvent x0)] (.tup [.slice (List.map rTapi_Sending r.1), .slice (List.map rowI r.2)])}) := by
  (intro x0; apply Subtype.mk; intro r hm; apply pure_walk Tryd.func52 fit_reply_book; unfold sc_reply_book)
  repeat' (first | with_reducible refine W_seq ?_ | with_reducible refine W_reg ?_ | with_reducible refine W_regE ?_ | with_reducible refine W_block ?_ | with_reducible refine W_skip ?_ | with_reducible refine W_ret ?_ | with_reducible refine W_exit ?_ | with_reducible refine O_nil ?_ | with_reducible refine K_seq ?_ | with_reducible refine K_seqE ?_ | with_reducible refine K_block ?_ | with_reducible refine K_blockE ?_ | ((with_reducible apply O_lookO hm); (iterate 3 (simp only [push_cast, seval, -List.reduceReplicate]; rfl)); decide; (intro _; rfl); rfl; (focus (simp only [push_cast, seval, -List.reduceReplicate]; done)); (focus (simp only [push_cast, seval, -List.reduceReplicate]; done)); intro hm; rotate_left; intro w hm) | with_reducible refine O_o2r ?_ | ((with_reducible apply O_idxr hm); (iterate 2 (simp only [push_cast, seval, -List.reduceReplicate]; rfl)); (intro _; rfl); intro e hm) | ((with_reducible apply O_idxVr hm); (iterate 3 (simp only [push_cast, seval, -List.reduceReplicate]; rfl)); intro e hm) | ((with_reducible apply O_r); (simp only [push_cast, seval, -List.reduceReplicate]; rfl); (first | exact trivial)) | ((with_reducible apply O_ldV1r hm); (iterate 2 (simp only [push_cast, seval, -List.reduceReplicate]; rfl)); (intro _; rfl); intro e hm) | ((with_reducible apply W_condT); (focus (simp only [push_cast, seval, -List.reduceReplicate]; done))) | ((with_reducible apply O_w); (simp only [push_cast, seval, -List.reduceReplicate]; rfl); (first | exact trivial)) | ((with_reducible apply O_appV hm); (iterate 4 (simp only [push_cast, seval, -List.reduceReplicate]; rfl)); (focus ((repeat' (first | rfl | (with_reducible first | apply fT_Tapi_Sending | apply dv_slice | apply fold_nil | apply fold_cons))); done)); decide; (intro _; rfl); intro hm) | ((with_reducible apply O_appVX hm); (iterate 2 (simp only [push_cast, seval, -List.reduceReplicate]; rfl)); (focus ((repeat' (first | rfl)); done)); (simp only [push_cast, seval, -List.reduceReplicate]; rfl); (focus ((repeat' (first | rfl | (with_reducible first | apply eR_nil | apply eR_cons))); done)); (intro _; rfl); (focus ((repeat' (first | exact Rer_nil | ((with_reducible apply Rer_cons); (focus (simp only [push_cast, seval, -List.reduceReplicate]; rfl)); (focus (first | exact trivial)); (focus (simp only [push_cast, seval, -List.reduceReplicate]))))); done)); intro hm) | ((with_reducible apply O_appNX hm); (focus (simp only [push_cast, seval, -List.reduceReplicate]; done)); (iterate 2 (simp only [push_cast, seval, -List.reduceReplicate]; rfl)); rfl; (focus ((repeat' (first | exact Rer_nil | ((with_reducible apply Rer_cons); (focus (simp only [push_cast, seval, -List.reduceReplicate]; rfl)); (focus (first | exact trivial)); (focus (simp only [push_cast, seval, -List.reduceReplicate]))))); done)); intro hm) | ((with_reducible apply O_stVX hm); (iterate 3 (simp only [push_cast, seval, -List.reduceReplicate]; rfl)); rfl; (intro _; rfl); rfl; (focus (intro a; simp only [push_cast, seval, -List.reduceReplicate]; rfl)); (focus (intro a; (repeat' (first | rfl | with_reducible apply eT_Tapi_Sending)); done)); (focus (intro _; (repeat' (first | exact Rer_nil | ((with_reducible apply Rer_cons); (focus (simp only [push_cast, seval, -List.reduceReplicate]; rfl)); (focus (first | exact trivial)); (focus (simp only [push_cast, seval, -List.reduceReplicate]))))); done)); intro e hm) | ((with_reducible apply O_truncX hm); (iterate 3 (simp only [push_cast, seval, -List.reduceReplicate]; rfl)); (focus (intro _; (repeat' (first | exact Rer_nil | ((with_reducible apply Rer_cons); (focus (simp only [push_cast, seval, -List.reduceReplicate]; rfl)); (focus (first | exact trivial)); (focus (simp only [push_cast, seval, -List.reduceReplicate]))))); done)); intro l hm) | ((with_reducible apply O_x); (simp only [push_cast, seval, -List.reduceReplicate]; rfl); (first | exact trivial); (focus ((repeat' (first | exact Rer_nil)); done))) | ((with_reducible apply O_lookM); (iterate 3 (simp only [push_cast, seval, -List.reduceReplicate]; rfl)); (focus (first | exact look_none (by assumption) | exact look_set)); rfl) | ((with_reducible apply S_condB hm); (simp only [push_cast, seval, -List.reduceReplicate]; rfl); intro hm; rotate_left; intro hm) | ((with_reducible apply K_end2 hm); (focus (simp only [resOf, resL, RV.get, push_cast, seval]; rfl)); (focus (first | (dsimp only; done))); (focus ((repeat' (first | rfl)); done))) | ((with_reducible apply K_leave hm); intro r hm) | ((apply S_loopY (b := 0) (X := sc_reply_book_B1) (x := sc_reply_book_L1) rfl (fun (c : SV × SV) (s : (List Tapi_Sending) × (List Int) × (List ((List UInt8) × (List Int))) × Int) => st [(4, .vec 4), (5, .vec 5), (6, .mp 11), (12, c.1), (13, c.2), (14, .d (.int .i64 s.2.2.2))] [(4, .vec 72 5 (vrow rTapi_Sending s.1)), (5, .vec 3 1 (vrow rowI s.2.1)), (11, .map .str (encM .str (ownV 3 (List.replicate 1 .sh) rowI) s.2.2.1))]) (c := (_, _)) (s0 := (_, _, _, _)) hm); (focus (first | (dsimp only; done))); (with_reducible refine Then.mk ?_ ?_); apply Imp.trans; (focus (apply imp_vecnil (slot := 4) (id := 4) (e := 72) (sz := 5); (focus (simp only [push_cast, seval, -List.reduceReplicate]; done)))); apply Imp.trans; (focus (apply imp_vecnil (slot := 5) (id := 5) (e := 3) (sz := 1); (focus (simp only [push_cast, seval, -List.reduceReplicate]; done))))) | ((apply W_openM (x := sc_reply_book_R8) 32 6 8 3 hm); (focus (simp only [push_cast, seval, -List.reduceReplicate]; rfl)); (focus (simp only [push_cast, seval, -List.reduceReplicate]; rfl)); (focus (simp only [push_cast, seval, -List.reduceReplicate]; rfl)); (focus decide); (focus (intro _; rfl)); (intro hl hm; unfold sc_reply_book_R8); rotate_left; (intro w hm; unfold sc_reply_book_R8)) | ((apply K_next (s' := (_, _, _, _)) hm); (focus (first | (dsimp only; done))); (focus ((apply imp_stT; (repeat' (first | with_reducible exact keepT_nil | with_reducible exact keepC_nil | with_reducible apply keepT_cons | with_reducible apply keepC_cons | ((with_reducible apply svle_eq); (focus (first | (simp only [push_cast, seval]; rfl))); (focus ((repeat' (first | rfl)); done))) | ((with_reducible apply chle_eq); (focus (first | (simp only [push_cast, seval]; rfl))); (first | with_reducible exact chle_rfl rfl)))); done)))) | ((apply K_brk (s' := (_, _, _, _)) hm); (focus (first | (dsimp only; done))); (focus ((apply imp_stT; (repeat' (first | with_reducible exact keepT_nil | with_reducible exact keepC_nil | with_reducible apply keepT_cons | with_reducible apply keepC_cons | ((with_reducible apply svle_eq); (focus (first | (simp only [push_cast, seval]; rfl))); (focus ((repeat' (first | rfl)); done))) | ((with_reducible apply chle_eq); (focus (first | (simp only [push_cast, seval]; rfl))); (first | with_reducible exact chle_rfl rfl)))); done)))) | ((apply K_next (s' := (_, _, _, _)) hm); (focus (first | (dsimp only; done))); (focus (apply Imp.trans; (focus (apply imp_closeR (id := 11) (id' := 32); (focus decide); (focus (simp only [push_cast, seval, -List.reduceReplicate]; rfl)); (focus rfl); (focus (simp only [push_cast, seval, -List.reduceReplicate]; rfl)); (focus ((repeat' (first | (with_reducible first | apply r_rfl | apply r_nil | apply r_cons | apply c_rowI) | ((with_reducible apply svle_rfl); (focus ((repeat' (first | rfl)); done))))); done)); (focus (intro _; rfl)))); (apply imp_stT; (repeat' (first | with_reducible exact keepT_nil | with_reducible exact keepC_nil | with_reducible apply keepT_cons | with_reducible apply keepC_cons | ((with_reducible apply svle_eq); (focus (first | (simp only [push_cast, seval]; rfl))); (focus ((repeat' (first | rfl)); done))) | ((with_reducible apply chle_eq); (focus (first | (simp only [push_cast, seval]; rfl))); (first | with_reducible exact chle_rfl rfl)))); done)))) | ((apply K_next (s' := (_, _, _, _)) hm); (focus (first | (dsimp only; done))); (focus (apply Imp.trans; (focus (apply imp_closeR (id := 11) (id' := 46); (focus decide); (focus (simp only [push_cast, seval, -List.reduceReplicate]; rfl)); (focus rfl); (focus (simp only [push_cast, seval, -List.reduceReplicate]; rfl)); (focus ((repeat' (first | (with_reducible first | apply r_rfl))); done)); (focus (intro _; rfl)))); (apply imp_stT; (repeat' (first | with_reducible exact keepT_nil | with_reducible exact keepC_nil | with_reducible apply keepT_cons | with_reducible apply keepC_cons | ((with_reducible apply svle_eq); (focus (first | (simp only [push_cast, seval]; rfl))); (focus ((repeat' (first | rfl)); done))) | ((with_reducible apply chle_eq); (focus (first | (simp only [push_cast, seval]; rfl))); (first | with_reducible exact chle_rfl rfl)))); done)))) | (((with_reducible apply LoopB.of); (focus (first | (dsimp only; done))); (focus ((intro _; repeat' (first | with_reducible exact impC_end | with_reducible refine impC_seq ?_)))); (intro s o hm; first | unfold sc_reply_book_L1); rotate_left; intro s hm)) | (((apply imp_stT; (repeat' (first | with_reducible exact keepT_nil | with_reducible exact keepC_nil | with_reducible apply keepT_cons | with_reducible apply keepC_cons | ((with_reducible apply svle_eq); (focus (first | (simp only [push_cast, seval]; rfl))); (focus ((repeat' (first | rfl)); done))) | ((with_reducible apply chle_eq); (focus (first | (simp only [push_cast, seval]; rfl))); (first | with_reducible exact chle_map0 | with_reducible apply chle_vec)) | (with_reducible first | apply r_nil))); done))))
noncomputable def m_reply_book (x0 : List Tapi_BookEvent) : Option ((List Tapi_Sending) × (List Int)) := (sims_G1_0_1 x0).1
theorem spec_reply_book (x0 : List Tapi_BookEvent) : ∀ r, m_reply_book x0 = some r → PureSpec Tryd.prog 52 [.slice (List.map rTapi_BookEvent x0)] (.tup [.slice (List.map rTapi_Sending r.1), .slice (List.map rowI r.2)]) := (sims_G1_0_1 x0).2

/-- interchange/kit.IsMoment -/
def sc_kit_IsMoment : SC :=
  (.seq (.reg [.r 2 (.mv (.c (.d (.bool false))))])
  (.seq (.reg [.r 3 (.mv (.t 0)),
     .c 4 (.f 31) [.t 3, .c (.d (.int .i64 0)), .c (.d (.int .i64 1000000000000000))],
     .r 5 (.not (.t 4)),
     .r 2 (.mv (.t 5))])
  .ret))
theorem fit_kit_IsMoment : fits Tryd.prog 32 Tryd.f32 sc_kit_IsMoment [.t 2] 1 = true := by kernel_rfl

/-- interchange/kit.IsRef -/
def sc_kit_IsRef : SC :=
  (.seq (.reg [.r 2 (.mv (.c (.d (.bool false))))])
  (.seq (.reg (.r 3 (.mv (.t 0)) :: .r 4 (.lenT (.t 3)) :: .r 5 (.bin .geq (.t 4) (.c (.d (.int .i64 1)))) :: .r 6 (.mv (.t 5)) :: gapp [7, 8, 9] 6 true (.r 7 (.mv (.t 0)) :: .r 8 (.lenT (.t 7)) :: .r 9 (.bin .leq (.t 8) (.c (.d (.int .i64 14)))) :: []) (.r 10 (.pick (.t 6) (.t 9) (.c (.d (.bool false)))) :: .r 11 (.mv (.t 10)) :: gapp [12, 13, 14] 11 true (.r 12 (.mv (.t 0)) :: .c 13 (.f 58) [.t 12, .c (.d (.str [65, 66, 67, 68, 69, 70, 71, 72, 73, 74, 75, 76, 77, 78, 79, 80, 81, 82, 83, 84, 85, 86, 87, 88, 89, 90, 48, 49, 50, 51, 52, 53, 54, 55, 56, 57, 45]))] :: .r 14 (.bin .eql (.t 13) (.c (.d (.str [])))) :: []) (.r 15 (.pick (.t 11) (.t 14) (.c (.d (.bool false)))) :: .r 2 (.mv (.t 15)) :: []))))
  .ret))
theorem fit_kit_IsRef : fits Tryd.prog 76 Tryd.f76 sc_kit_IsRef [.t 2] 1 = true := by kernel_rfl

/-- interchange/reply.isVerdict -/
def sc_reply_isVerdict : SC :=
  (.seq (.reg [.r 2 (.mv (.c (.d (.bool false))))])
  (.seq (.reg [.r 3 (.mv (.t 0)),
     .c 4 (.f 31) [.t 3, .c (.d (.int .i64 1)), .c (.d (.int .i64 3))],
     .r 5 (.not (.t 4)),
     .r 2 (.mv (.t 5))])
  .ret))
theorem fit_reply_isVerdict : fits Tryd.prog 77 Tryd.f77 sc_reply_isVerdict [.t 2] 1 = true := by kernel_rfl

def sc_reply_at_L1 : SC :=
  (.seq (.seq (.reg (.r 8 (.mv (.t 5)) :: .r 9 (.mv (.t 0)) :: .r 10 (.len (.t 9)) :: .r 11 (.bin .lss (.t 8) (.t 10)) :: .r 12 (.mv (.t 11)) :: gapp [13, 14, 15, 16, 17, 18, 19] 12 true (.r 13 (.mv (.t 0)) :: .r 14 (.mv (.t 5)) :: .r 15 (.idx 5 (.t 13) (.t 14)) :: .r 16 (.fld 1 (.t 15)) :: .r 17 (.ld1 (.t 16)) :: .r 18 (.mv (.t 1)) :: .r 19 (.bin .leq (.t 17) (.t 18)) :: []) (.r 20 (.pick (.t 12) (.t 19) (.c (.d (.bool false)))) :: [])))
  (.cond (.t 20)
    .skip
    (.exit 0)))
  (.block 1 (.reg [.r 21 (.mv (.t 5)),
       .r 22 (.bin .add (.t 21) (.c (.d (.int .i64 1)))),
       .r 5 (.mv (.t 22))])))
def sc_reply_at_B1 : SC := .block 0 (.loop sc_reply_at_L1)
/-- interchange/reply.at -/
def sc_reply_at : SC :=
  (.seq (.reg [.r 4 (.mv (.c (.nils)))])
  (.seq (.reg [.r 5 (.mv (.c (.d (.int .i64 0))))])
  (.seq sc_reply_at_B1
  (.seq (.reg [.r 24 (.mv (.t 0)),
     .r 25 (.mv (.t 5)),
     .r 26 (.slc 5 (.t 24) none (some (.t 25))),
     .c 27 (.f 52) [.t 26],
     .r 23 (.mv (.t 27)),
     .r 28 (.ext (.t 23) 0),
     .r 29 (.ext (.t 23) 1),
     .r 6 (.mv (.t 28)),
     .r 7 (.mv (.t 29))])
  (.seq (.reg [.r 30 (.mv (.t 6)),
     .r 4 (.mv (.t 30))])
  .ret)))))
theorem fit_reply_at : fits Tryd.prog 30 Tryd.f30 sc_reply_at [.t 4] 2 = true := by kernel_rfl

/-- interchange/interchangeref7.isVerdict -/
def sc_interchangeref7_isVerdict : SC :=
  (.seq (.reg [.r 2 (.mv (.c (.d (.bool false))))])
  (.seq (.reg [.r 3 (.mv (.t 0)),
     .c 4 (.f 35) [.t 3, .c (.d (.int .i64 1)), .c (.d (.int .i64 3))],
     .r 2 (.mv (.t 4))])
  .ret))
theorem fit_interchangeref7_isVerdict : fits Tryd.prog 79 Tryd.f79 sc_interchangeref7_isVerdict [.t 2] 1 = true := by kernel_rfl

set_option maxRecDepth 100000 in
set_option maxHeartbeats 40000000 in
noncomputable def sims_G1_1_0 : (∀ (x0 : Int), {m : Option (Bool) // ∀ r, m = some r → PureSpec Tryd.prog 32 [.int .i64 x0] (.bool r)}) × (∀ (x0 : List UInt8), {m : Option (Bool) // ∀ r, m = some r → PureSpec Tryd.prog 76 [.str x0] (.bool r)}) × (∀ (x0 : Int), {m : Option (Bool) // ∀ r, m = some r → PureSpec Tryd.prog 77 [.int .i64 x0] (.bool r)}) × (∀ (x0 : List Tapi_BookEvent) (x1 : Int), {m : Option ((List Tapi_Sending)) // ∀ r, m = some r → PureSpec Tryd.prog 30 [.slice (List.map rTapi_BookEvent x0), .int .i64 x1] (.slice (List.map rTapi_Sending r))}) × (∀ (x0 : Int), {m : Option (Bool) // ∀ r, m = some r → PureSpec Tryd.prog 79 [.int .i64 x0] (.bool r)}) := by
  refine ⟨?g0, ?g1, ?g2, ?g3, ?g4⟩
  case' g0 => (intro x0; apply Subtype.mk; intro r hm; apply pure_walk Tryd.func32 fit_kit_IsMoment; unfold sc_kit_IsMoment)
  case' g1 => (intro x0; apply Subtype.mk; intro r hm; apply pure_walk Tryd.func76 fit_kit_IsRef; unfold sc_kit_IsRef)
  case' g2 => (intro x0; apply Subtype.mk; intro r hm; apply pure_walk Tryd.func77 fit_reply_isVerdict; unfold sc_reply_isVerdict)
  case' g3 => (intro x0 x1; apply Subtype.mk; intro r hm; apply pure_walk Tryd.func30 fit_reply_at; unfold sc_reply_at)
  case' g4 => (intro x0; apply Subtype.mk; intro r hm; apply pure_walk Tryd.func79 fit_interchangeref7_isVerdict; unfold sc_interchangeref7_isVerdict)
  all_goals (repeat' (first | with_reducible refine W_seq ?_ | with_reducible refine W_reg ?_ | with_reducible refine W_block ?_ | with_reducible refine W_skip ?_ | with_reducible refine W_ret ?_ | with_reducible refine W_exit ?_ | with_reducible refine O_nil ?_ | with_reducible refine K_seq ?_ | with_reducible refine K_seqE ?_ | with_reducible refine K_block ?_ | ((with_reducible apply O_idxr hm); (iterate 2 (simp only [push_cast, seval]; rfl)); (intro _; rfl); intro e hm) | ((with_reducible apply O_slcr hm); (iterate 3 (simp only [push_cast, seval]; rfl)); (intro _; rfl); intro e hm) | ((with_reducible apply O_r); (simp only [push_cast, seval]; rfl); (first | exact trivial)) | ((with_reducible apply O_and hm); (simp only [push_cast, seval]; rfl); rfl; intro v hm; rotate_left; intro v g hm) | ((with_reducible apply O_cF hm); (simp only [push_cast, seval]; rfl); (first | apply spec_kit_Outside _ _ _ | apply spec_strings_Trim _ _ | apply spec_reply_book _ | apply spec_interchangeref7_within _ _ _); (any_goals ((repeat' (first | rfl)); done)); intro x hm) | ((with_reducible apply S_condB hm); (simp only [push_cast, seval]; rfl); intro hm; rotate_left; intro hm) | ((with_reducible apply K_endS hm); (focus (simp only [resOf, resL, RV.get, push_cast, seval]; rfl)); (focus ((repeat' (first | rfl)); done))) | ((with_reducible apply K_bool hm); (simp only [push_cast, seval]; rfl)) | ((with_reducible apply K_leave hm); intro r hm) | ((apply S_loopY (b := 0) (X := sc_reply_at_B1) (x := sc_reply_at_L1) rfl (fun (c : SV × SV) (s : Int) => st [(0, c.1), (1, c.2), (5, .d (.int .i64 s))] []) (c := (_, _)) (s0 := _) hm); (focus (first | (dsimp only; done))); (with_reducible refine Then.mk ?_ ?_)) | ((apply K_next (s' := _) hm); (focus (first | (dsimp only; done)))) | ((apply K_brk (s' := _) hm); (focus (first | (dsimp only; done)))) | (((with_reducible apply LoopB.of); (focus (first | (dsimp only; done))); (focus ((intro _; repeat' (first | with_reducible exact impC_end | with_reducible refine impC_seq ?_)))); (intro s o hm; first | unfold sc_reply_at_L1); rotate_left; intro s hm)) | (((apply imp_stT; (repeat' (first | with_reducible exact keepT_nil | with_reducible exact keepC_nil | with_reducible apply keepT_cons | ((with_reducible apply svle_eq); (focus (first | (simp only [push_cast, seval]; rfl))); (focus ((repeat' (first | rfl)); done))))); done)))))
noncomputable def m_kit_IsMoment (x0 : Int) : Option (Bool) := (sims_G1_1_0.1 x0).1
theorem spec_kit_IsMoment (x0 : Int) : ∀ r, m_kit_IsMoment x0 = some r → PureSpec Tryd.prog 32 [.int .i64 x0] (.bool r) := (sims_G1_1_0.1 x0).2
noncomputable def m_kit_IsRef (x0 : List UInt8) : Option (Bool) := (sims_G1_1_0.2.1 x0).1
theorem spec_kit_IsRef (x0 : List UInt8) : ∀ r, m_kit_IsRef x0 = some r → PureSpec Tryd.prog 76 [.str x0] (.bool r) := (sims_G1_1_0.2.1 x0).2
noncomputable def m_reply_isVerdict (x0 : Int) : Option (Bool) := (sims_G1_1_0.2.2.1 x0).1
theorem spec_reply_isVerdict (x0 : Int) : ∀ r, m_reply_isVerdict x0 = some r → PureSpec Tryd.prog 77 [.int .i64 x0] (.bool r) := (sims_G1_1_0.2.2.1 x0).2
noncomputable def m_reply_at (x0 : List Tapi_BookEvent) (x1 : Int) : Option ((List Tapi_Sending)) := (sims_G1_1_0.2.2.2.1 x0 x1).1
theorem spec_reply_at (x0 : List Tapi_BookEvent) (x1 : Int) : ∀ r, m_reply_at x0 x1 = some r → PureSpec Tryd.prog 30 [.slice (List.map rTapi_BookEvent x0), .int .i64 x1] (.slice (List.map rTapi_Sending r)) := (sims_G1_1_0.2.2.2.1 x0 x1).2
noncomputable def m_interchangeref7_isVerdict (x0 : Int) : Option (Bool) := (sims_G1_1_0.2.2.2.2 x0).1
theorem spec_interchangeref7_isVerdict (x0 : Int) : ∀ r, m_interchangeref7_isVerdict x0 = some r → PureSpec Tryd.prog 79 [.int .i64 x0] (.bool r) := (sims_G1_1_0.2.2.2.2 x0).2

/-- interchange/reply.eventFault -/
def sc_reply_eventFault : SC :=
  (.seq (.reg [.r 4 (.mv (.c (.d (.int .i64 0))))])
  (.seq (.reg [.r 6 (.mv (.t 0)),
     .r 7 (.mv (.t 1)),
     .r 8 (.idx 5 (.t 6) (.t 7)),
     .o 9 (.ldA 5 (.t 8)),
     .w 5 (.boxM (.c (.agg [.d (.int .i64 0), .d (.int .i64 0), .d (.int .i64 0), .d (.str []), .d (.int .i64 0)]))),
     .w 0 (.st 5 (.t 5) (.t 9))])
  (.seq (.seq (.reg [.r 10 (.fld 0 (.t 5)),
     .o 11 (.ld1 (.t 10)),
     .c 12 (.f 31) [.t 11, .c (.d (.int .i64 1)), .c (.d (.int .i64 2))]])
  (.cond (.t 12)
    (.seq (.reg [.r 4 (.mv (.c (.d (.int .i64 4))))])
    .ret)
    .skip))
  (.seq (.seq (.reg [.r 13 (.fld 1 (.t 5)),
     .o 14 (.ld1 (.t 13)),
     .c 15 (.f 32) [.t 14],
     .r 16 (.not (.t 15))])
  (.cond (.t 16)
    (.seq (.reg [.r 4 (.mv (.c (.d (.int .i64 1))))])
    .ret)
    .skip))
  (.seq (.seq (.reg [.r 17 (.fld 3 (.t 5)),
     .o 18 (.ld1 (.t 17)),
     .c 19 (.f 76) [.t 18],
     .r 20 (.not (.t 19))])
  (.cond (.t 20)
    (.seq (.reg [.r 4 (.mv (.c (.d (.int .i64 3))))])
    .ret)
    .skip))
  (.seq (.block 0 (.seq (.reg (.r 22 (.fld 0 (.t 5)) :: .o 23 (.ld1 (.t 22)) :: .r 24 (.bin .eql (.t 23) (.c (.d (.int .i64 1)))) :: .r 25 (.mv (.t 24)) :: gapp [26, 27, 28] 25 true (.r 26 (.fld 4 (.t 5)) :: .r 27 (.ld1 (.t 26)) :: .r 28 (.bin .neq (.t 27) (.c (.d (.int .i64 0)))) :: []) (.r 29 (.pick (.t 25) (.t 28) (.c (.d (.bool false)))) :: .r 21 (.mv (.t 29)) :: [])))
    (.cond (.t 21)
      (.seq (.reg [.r 4 (.mv (.c (.d (.int .i64 3))))])
      .ret)
      (.seq (.reg (.r 31 (.fld 0 (.t 5)) :: .o 32 (.ld1 (.t 31)) :: .r 33 (.bin .eql (.t 32) (.c (.d (.int .i64 1)))) :: .r 34 (.mv (.t 33)) :: gapp [35, 36, 37, 38, 39, 40, 41, 42] 34 true (.r 35 (.fld 2 (.t 5)) :: .r 36 (.ld1 (.t 35)) :: .r 37 (.fld 1 (.t 5)) :: .r 38 (.ld1 (.t 37)) :: .r 39 (.fld 1 (.t 5)) :: .r 40 (.ld1 (.t 39)) :: .r 41 (.bin .add (.t 40) (.c (.d (.int .i64 10000000)))) :: .c 42 (.f 31) [.t 36, .t 38, .t 41] :: []) (.r 43 (.pick (.t 34) (.t 42) (.c (.d (.bool false)))) :: .r 30 (.mv (.t 43)) :: [])))
      (.cond (.t 30)
        (.seq (.reg [.r 4 (.mv (.c (.d (.int .i64 1))))])
        .ret)
        (.seq (.reg (.r 45 (.fld 0 (.t 5)) :: .o 46 (.ld1 (.t 45)) :: .r 47 (.bin .eql (.t 46) (.c (.d (.int .i64 2)))) :: .r 48 (.mv (.t 47)) :: gapp [49, 50, 51] 48 true (.r 49 (.fld 2 (.t 5)) :: .r 50 (.ld1 (.t 49)) :: .r 51 (.bin .neq (.t 50) (.c (.d (.int .i64 0)))) :: []) (.r 52 (.pick (.t 48) (.t 51) (.c (.d (.bool false)))) :: .r 44 (.mv (.t 52)) :: [])))
        (.cond (.t 44)
          (.seq (.reg [.r 4 (.mv (.c (.d (.int .i64 3))))])
          .ret)
          (.seq (.reg (.r 54 (.fld 0 (.t 5)) :: .o 55 (.ld1 (.t 54)) :: .r 56 (.bin .eql (.t 55) (.c (.d (.int .i64 2)))) :: .r 57 (.mv (.t 56)) :: gapp [58, 59, 60, 61] 57 true (.r 58 (.fld 4 (.t 5)) :: .r 59 (.ld1 (.t 58)) :: .c 60 (.f 77) [.t 59] :: .r 61 (.not (.t 60)) :: []) (.r 62 (.pick (.t 57) (.t 61) (.c (.d (.bool false)))) :: .r 53 (.mv (.t 62)) :: [])))
          (.cond (.t 53)
            (.seq (.reg [.r 4 (.mv (.c (.d (.int .i64 4))))])
            .ret)
            (.seq (.regD (.r 64 (.mv (.t 1)) :: .r 65 (.bin .gtr (.t 64) (.c (.d (.int .i64 0)))) :: .r 66 (.mv (.t 65)) :: gapp [67, 68, 69, 70, 71, 72, 73, 74, 75] 66 true (.r 67 (.fld 1 (.t 5)) :: .r 68 (.ld1 (.t 67)) :: .r 69 (.mv (.t 0)) :: .r 70 (.mv (.t 1)) :: .r 71 (.bin .sub (.t 70) (.c (.d (.int .i64 1)))) :: .r 72 (.idx 5 (.t 69) (.t 71)) :: .r 73 (.fld 1 (.t 72)) :: .r 74 (.ld1 (.t 73)) :: .r 75 (.bin .lss (.t 68) (.t 74)) :: []) (.r 76 (.pick (.t 66) (.t 75) (.c (.d (.bool false)))) :: .r 63 (.mv (.t 76)) :: [])))
            (.cond (.t 63)
              (.seq (.reg [.r 4 (.mv (.c (.d (.int .i64 8))))])
              .ret)
              .skip)))))))))))
  (.seq (.reg [.r 4 (.mv (.c (.d (.int .i64 0))))])
  .ret)))))))
theorem fit_reply_eventFault : fits Tryd.prog 51 Tryd.f51 sc_reply_eventFault [.t 4] 2 = true := by kernel_rfl

/-- interchange/interchangeref7.checkEvent -/
def sc_interchangeref7_checkEvent : SC :=
  (.seq (.reg [.r 1 (.boxI (.t 0)),
     .r 2 (.mv (.c (.d (.int .i64 0))))])
  (.seq (.seq (.reg (.r 3 (.fld 0 (.t 1)) :: .o 4 (.ld1 (.t 3)) :: .r 5 (.bin .neq (.t 4) (.c (.d (.int .i64 1)))) :: .r 6 (.mv (.t 5)) :: gapp [7, 8, 9] 6 true (.r 7 (.fld 0 (.t 1)) :: .r 8 (.ld1 (.t 7)) :: .r 9 (.bin .neq (.t 8) (.c (.d (.int .i64 2)))) :: []) (.r 10 (.pick (.t 6) (.t 9) (.c (.d (.bool false)))) :: [])))
  (.cond (.t 10)
    (.seq (.reg [.r 2 (.mv (.c (.d (.int .i64 4))))])
    .ret)
    .skip))
  (.seq (.seq (.reg [.r 11 (.fld 1 (.t 1)),
     .o 12 (.ld1 (.t 11)),
     .c 13 (.f 35) [.t 12, .c (.d (.int .i64 0)), .c (.d (.int .i64 1000000000000000))],
     .r 14 (.not (.t 13))])
  (.cond (.t 14)
    (.seq (.reg [.r 2 (.mv (.c (.d (.int .i64 1))))])
    .ret)
    .skip))
  (.seq (.seq (.reg [.r 15 (.fld 3 (.t 1)),
     .o 16 (.ld1 (.t 15)),
     .c 17 (.f 78) [.t 16],
     .r 18 (.not (.t 17))])
  (.cond (.t 18)
    (.seq (.reg [.r 2 (.mv (.c (.d (.int .i64 3))))])
    .ret)
    .skip))
  (.seq (.seq (.reg [.r 19 (.fld 0 (.t 1)),
     .o 20 (.ld1 (.t 19)),
     .r 21 (.bin .eql (.t 20) (.c (.d (.int .i64 1))))])
  (.cond (.t 21)
    (.seq (.seq (.reg [.r 22 (.fld 4 (.t 1)),
       .o 23 (.ld1 (.t 22)),
       .r 24 (.bin .neq (.t 23) (.c (.d (.int .i64 0))))])
    (.cond (.t 24)
      (.seq (.reg [.r 2 (.mv (.c (.d (.int .i64 3))))])
      .ret)
      .skip))
    (.seq (.seq (.reg [.r 25 (.fld 2 (.t 1)),
       .o 26 (.ld1 (.t 25)),
       .r 27 (.fld 1 (.t 1)),
       .o 28 (.ld1 (.t 27)),
       .r 29 (.fld 1 (.t 1)),
       .o 30 (.ld1 (.t 29)),
       .r 31 (.bin .add (.t 30) (.c (.d (.int .i64 10000000)))),
       .c 32 (.f 35) [.t 26, .t 28, .t 31],
       .r 33 (.not (.t 32))])
    (.cond (.t 33)
      (.seq (.reg [.r 2 (.mv (.c (.d (.int .i64 1))))])
      .ret)
      .skip))
    (.seq (.reg [.r 2 (.mv (.c (.d (.int .i64 0))))])
    .ret)))
    .skip))
  (.seq (.seq (.reg [.r 34 (.fld 2 (.t 1)),
     .o 35 (.ld1 (.t 34)),
     .r 36 (.bin .neq (.t 35) (.c (.d (.int .i64 0))))])
  (.cond (.t 36)
    (.seq (.reg [.r 2 (.mv (.c (.d (.int .i64 3))))])
    .ret)
    .skip))
  (.seq (.seq (.reg [.r 37 (.fld 4 (.t 1)),
     .o 38 (.ld1 (.t 37)),
     .c 39 (.f 79) [.t 38],
     .r 40 (.not (.t 39))])
  (.cond (.t 40)
    (.seq (.reg [.r 2 (.mv (.c (.d (.int .i64 4))))])
    .ret)
    .skip))
  (.seq (.reg [.r 2 (.mv (.c (.d (.int .i64 0))))])
  .ret))))))))
theorem fit_interchangeref7_checkEvent : fits Tryd.prog 53 Tryd.f53 sc_interchangeref7_checkEvent [.t 2] 1 = true := by kernel_rfl

set_option maxRecDepth 100000 in
set_option maxHeartbeats 40000000 in
noncomputable def sims_G1_2_0 : (∀ (x0 : List Tapi_BookEvent) (x1 : Int), {m : Option (Int) // ∀ r, m = some r → PureSpec Tryd.prog 51 [.slice (List.map rTapi_BookEvent x0), .int .i64 x1] (.int .i64 r)}) × (∀ (x0 : Tapi_BookEvent), {m : Option (Int) // ∀ r, m = some r → PureSpec Tryd.prog 53 [.agg (rTapi_BookEvent x0)] (.int .i64 r)}) := by
  refine ⟨?g0, ?g1⟩
  case' g0 => (intro x0 x1; apply Subtype.mk; intro r hm; apply pure_walk Tryd.func51 fit_reply_eventFault; unfold sc_reply_eventFault)
  case' g1 => (intro x0; apply Subtype.mk; intro r hm; apply pure_walk Tryd.func53 fit_interchangeref7_checkEvent; unfold sc_interchangeref7_checkEvent)
  all_goals (repeat' (first | with_reducible refine W_seq ?_ | with_reducible refine W_reg ?_ | with_reducible refine W_regD ?_ | with_reducible refine W_block ?_ | with_reducible refine W_skip ?_ | with_reducible refine W_ret ?_ | with_reducible refine O_nil ?_ | with_reducible refine K_seq ?_ | with_reducible refine K_seqR ?_ | with_reducible refine K_block ?_ | with_reducible refine K_blockR ?_ | with_reducible refine O_o2r ?_ | ((with_reducible apply O_idxr hm); (iterate 2 (simp only [push_cast, seval]; rfl)); (intro _; rfl); intro e hm) | ((with_reducible apply O_r); (simp only [push_cast, seval]; rfl); (first | exact trivial)) | ((with_reducible apply O_and hm); (simp only [push_cast, seval]; rfl); rfl; intro v hm; rotate_left; intro v g hm) | ((with_reducible apply O_cF hm); (simp only [push_cast, seval]; rfl); (first | apply spec_kit_Outside _ _ _ | apply spec_kit_IsMoment _ | apply spec_kit_IsRef _ | apply spec_reply_isVerdict _ | apply spec_interchangeref7_within _ _ _ | apply spec_interchangeref2_IsReference _ | apply spec_interchangeref7_isVerdict _); (any_goals ((repeat' (first | rfl)); done)); intro x hm) | ((with_reducible apply O_w); (simp only [push_cast, seval]; rfl); (first | exact trivial)) | ((with_reducible apply S_condB hm); (simp only [push_cast, seval]; rfl); intro hm; rotate_left; intro hm) | ((with_reducible apply K_endS hm); (focus (simp only [resOf, resL, RV.get, push_cast, seval]; rfl)); (focus ((repeat' (first | rfl)); done))) | ((with_reducible apply K_bool hm); (simp only [push_cast, seval]; rfl))))
noncomputable def m_reply_eventFault (x0 : List Tapi_BookEvent) (x1 : Int) : Option (Int) := (sims_G1_2_0.1 x0 x1).1
theorem spec_reply_eventFault (x0 : List Tapi_BookEvent) (x1 : Int) : ∀ r, m_reply_eventFault x0 x1 = some r → PureSpec Tryd.prog 51 [.slice (List.map rTapi_BookEvent x0), .int .i64 x1] (.int .i64 r) := (sims_G1_2_0.1 x0 x1).2
noncomputable def m_interchangeref7_checkEvent (x0 : Tapi_BookEvent) : Option (Int) := (sims_G1_2_0.2 x0).1
theorem spec_interchangeref7_checkEvent (x0 : Tapi_BookEvent) : ∀ r, m_interchangeref7_checkEvent x0 = some r → PureSpec Tryd.prog 53 [.agg (rTapi_BookEvent x0)] (.int .i64 r) := (sims_G1_2_0.2 x0).2

def sc_reply_CheckBook_L1 : SC :=
  (.seq (.reg [.r 11 (.bin .lss (.t 10) (.t 9))])
  (.seq (.cond (.t 11)
    .skip
    (.exit 0))
  (.seq (.block 1 (.seq (.reg [.r 12 (.mv (.t 10)),
       .r 3 (.mv (.t 12))])
    (.seq (.reg [.r 13 (.mv (.t 0)),
       .r 14 (.mv (.t 3)),
       .c 15 (.f 51) [.t 13, .t 14],
       .r 4 (.mv (.t 15))])
    (.seq (.reg [.r 16 (.mv (.t 4)),
       .r 17 (.bin .neq (.t 16) (.c (.d (.int .i64 0))))])
    (.cond (.t 17)
      (.seq (.reg [.r 18 (.mv (.t 4)),
         .r 2 (.mv (.t 18))])
      .ret)
      .skip)))))
  (.reg [.r 19 (.bin .add (.t 10) (.c (.d (.int .i64 1)))),
     .r 10 (.mv (.t 19))]))))
def sc_reply_CheckBook_B1 : SC := .block 0 (.loop sc_reply_CheckBook_L1)
/-- interchange/reply.CheckBook -/
def sc_reply_CheckBook : SC :=
  (.seq (.reg [.r 2 (.mv (.c (.d (.int .i64 0))))])
  (.seq (.seq (.reg [.r 5 (.mv (.t 0)),
     .r 6 (.len (.t 5)),
     .r 7 (.bin .gtr (.t 6) (.c (.d (.int .i64 3000))))])
  (.cond (.t 7)
    (.seq (.reg [.r 2 (.mv (.c (.d (.int .i64 2))))])
    .ret)
    .skip))
  (.seq (.seq (.reg [.r 8 (.mv (.t 0)),
     .r 9 (.len (.t 8)),
     .r 10 (.mv (.c (.d (.int .i64 0))))])
  sc_reply_CheckBook_B1)
  (.seq (.reg [.r 2 (.mv (.c (.d (.int .i64 0))))])
  .ret))))
theorem fit_reply_CheckBook : fits Tryd.prog 29 Tryd.f29 sc_reply_CheckBook [.t 2] 1 = true := by kernel_rfl

def sc_interchangeref7_CheckBook_L1 : SC :=
  (.seq (.seq (.reg [.r 8 (.mv (.t 3)),
     .r 9 (.mv (.t 0)),
     .r 10 (.len (.t 9)),
     .r 11 (.bin .lss (.t 8) (.t 10))])
  (.cond (.t 11)
    .skip
    (.exit 0)))
  (.seq (.block 1 (.seq (.seq (.reg [.r 14 (.mv (.t 0)),
       .r 15 (.mv (.t 3)),
       .r 16 (.idx 5 (.t 14) (.t 15)),
       .o 17 (.ldA 5 (.t 16)),
       .c 18 (.f 53) [.t 17],
       .r 4 (.mv (.t 18))])
    (.seq (.reg [.r 19 (.mv (.t 4)),
       .r 20 (.bin .neq (.t 19) (.c (.d (.int .i64 0))))])
    (.cond (.t 20)
      (.seq (.reg [.r 21 (.mv (.t 4)),
         .r 2 (.mv (.t 21))])
      .ret)
      .skip)))
    (.seq (.regD (.r 22 (.mv (.t 3)) :: .r 23 (.bin .gtr (.t 22) (.c (.d (.int .i64 0)))) :: .r 24 (.mv (.t 23)) :: gapp [25, 26, 27, 28, 29, 30, 31, 32, 33, 34, 35, 36] 24 true (.r 25 (.mv (.t 0)) :: .r 26 (.mv (.t 3)) :: .r 27 (.idx 5 (.t 25) (.t 26)) :: .r 28 (.fld 1 (.t 27)) :: .r 29 (.ld1 (.t 28)) :: .r 30 (.mv (.t 0)) :: .r 31 (.mv (.t 3)) :: .r 32 (.bin .sub (.t 31) (.c (.d (.int .i64 1)))) :: .r 33 (.idx 5 (.t 30) (.t 32)) :: .r 34 (.fld 1 (.t 33)) :: .r 35 (.ld1 (.t 34)) :: .r 36 (.bin .lss (.t 29) (.t 35)) :: []) (.r 37 (.pick (.t 24) (.t 36) (.c (.d (.bool false)))) :: [])))
    (.cond (.t 37)
      (.seq (.reg [.r 2 (.mv (.c (.d (.int .i64 8))))])
      .ret)
      .skip))))
  (.reg [.r 12 (.mv (.t 3)),
     .r 13 (.bin .add (.t 12) (.c (.d (.int .i64 1)))),
     .r 3 (.mv (.t 13))])))
def sc_interchangeref7_CheckBook_B1 : SC := .block 0 (.loop sc_interchangeref7_CheckBook_L1)
/-- interchange/interchangeref7.CheckBook -/
def sc_interchangeref7_CheckBook : SC :=
  (.seq (.reg [.r 2 (.mv (.c (.d (.int .i64 0))))])
  (.seq (.seq (.reg [.r 5 (.mv (.t 0)),
     .r 6 (.len (.t 5)),
     .r 7 (.bin .gtr (.t 6) (.c (.d (.int .i64 3000))))])
  (.cond (.t 7)
    (.seq (.reg [.r 2 (.mv (.c (.d (.int .i64 2))))])
    .ret)
    .skip))
  (.seq (.seq (.reg [.r 3 (.mv (.c (.d (.int .i64 0))))])
  sc_interchangeref7_CheckBook_B1)
  (.seq (.reg [.r 2 (.mv (.c (.d (.int .i64 0))))])
  .ret))))
theorem fit_interchangeref7_CheckBook : fits Tryd.prog 34 Tryd.f34 sc_interchangeref7_CheckBook [.t 2] 1 = true := by kernel_rfl

set_option maxRecDepth 100000 in
set_option maxHeartbeats 40000000 in
noncomputable def sims_G1_3_0 : (∀ (x0 : List Tapi_BookEvent), {m : Option (Int) // ∀ r, m = some r → PureSpec Tryd.prog 29 [.slice (List.map rTapi_BookEvent x0)] (.int .i64 r)}) × (∀ (x0 : List Tapi_BookEvent), {m : Option (Int) // ∀ r, m = some r → PureSpec Tryd.prog 34 [.slice (List.map rTapi_BookEvent x0)] (.int .i64 r)}) := by
  refine ⟨?g0, ?g1⟩
  case' g0 => (intro x0; apply Subtype.mk; intro r hm; apply pure_walk Tryd.func29 fit_reply_CheckBook; unfold sc_reply_CheckBook)
  case' g1 => (intro x0; apply Subtype.mk; intro r hm; apply pure_walk Tryd.func34 fit_interchangeref7_CheckBook; unfold sc_interchangeref7_CheckBook)
  all_goals (repeat' (first | with_reducible refine W_seq ?_ | with_reducible refine W_reg ?_ | with_reducible refine W_regD ?_ | with_reducible refine W_block ?_ | with_reducible refine W_skip ?_ | with_reducible refine W_ret ?_ | with_reducible refine W_exit ?_ | with_reducible refine O_nil ?_ | with_reducible refine K_seq ?_ | with_reducible refine K_seqE ?_ | with_reducible refine K_seqR ?_ | with_reducible refine K_block ?_ | with_reducible refine K_blockR ?_ | with_reducible refine O_o2r ?_ | ((with_reducible apply O_idxr hm); (iterate 2 (simp only [push_cast, seval]; rfl)); (intro _; rfl); intro e hm) | ((with_reducible apply O_r); (simp only [push_cast, seval]; rfl); (first | exact trivial)) | ((with_reducible apply O_and hm); (simp only [push_cast, seval]; rfl); rfl; intro v hm; rotate_left; intro v g hm) | ((with_reducible apply O_cF hm); (simp only [push_cast, seval]; rfl); (first | apply spec_reply_eventFault _ _ | apply spec_interchangeref7_checkEvent _); (any_goals ((repeat' (first | rfl)); done)); intro x hm) | ((with_reducible apply S_condB hm); (simp only [push_cast, seval]; rfl); intro hm; rotate_left; intro hm) | ((with_reducible apply K_endS hm); (focus (simp only [resOf, resL, RV.get, push_cast, seval]; rfl)); (focus ((repeat' (first | rfl)); done))) | ((with_reducible apply K_bool hm); (simp only [push_cast, seval]; rfl)) | ((with_reducible apply K_leave hm); intro r hm) | ((with_reducible apply K_leaveR hm); intro r hm) | ((apply S_loopY (b := 0) (X := sc_reply_CheckBook_B1) (x := sc_reply_CheckBook_L1) rfl (fun (c : SV × SV) (s : Int) => st [(0, c.1), (9, c.2), (10, .d (.int .i64 s))] []) (c := (_, _)) (s0 := _) hm); (focus (first | (dsimp only; done))); (with_reducible refine Then.mk ?_ ?_)) | ((apply S_loopY (b := 0) (X := sc_interchangeref7_CheckBook_B1) (x := sc_interchangeref7_CheckBook_L1) rfl (fun (c : SV) (s : Int) => st [(0, c), (3, .d (.int .i64 s))] []) (c := _) (s0 := _) hm); (focus (first | (dsimp only; done))); (with_reducible refine Then.mk ?_ ?_)) | ((apply K_next (s' := _) hm); (focus (first | (dsimp only; done)))) | ((apply K_brk (s' := _) hm); (focus (first | (dsimp only; done)))) | (((with_reducible apply K_brkR hm); intro r hm)) | (((with_reducible apply LoopB.of); (focus (first | (dsimp only; done))); (focus ((intro _; repeat' (first | with_reducible exact impC_end | with_reducible refine impC_seq ?_)))); (intro s o hm; first | unfold sc_reply_CheckBook_L1 | unfold sc_interchangeref7_CheckBook_L1); rotate_left; intro s hm)) | (((apply imp_stT; (repeat' (first | with_reducible exact keepT_nil | with_reducible exact keepC_nil | with_reducible apply keepT_cons | ((with_reducible apply svle_eq); (focus (first | (simp only [push_cast, seval]; rfl))); (focus ((repeat' (first | rfl)); done))))); done)))))
noncomputable def m_reply_CheckBook (x0 : List Tapi_BookEvent) : Option (Int) := (sims_G1_3_0.1 x0).1
theorem spec_reply_CheckBook (x0 : List Tapi_BookEvent) : ∀ r, m_reply_CheckBook x0 = some r → PureSpec Tryd.prog 29 [.slice (List.map rTapi_BookEvent x0)] (.int .i64 r) := (sims_G1_3_0.1 x0).2
noncomputable def m_interchangeref7_CheckBook (x0 : List Tapi_BookEvent) : Option (Int) := (sims_G1_3_0.2 x0).1
theorem spec_interchangeref7_CheckBook (x0 : List Tapi_BookEvent) : ∀ r, m_interchangeref7_CheckBook x0 = some r → PureSpec Tryd.prog 34 [.slice (List.map rTapi_BookEvent x0)] (.int .i64 r) := (sims_G1_3_0.2 x0).2

/-- interchange/reply.StateAt -/
def sc_reply_StateAt : SC :=
  (.seq (.reg [.r 6 (.mv (.c (.d (.int .i64 0)))),
     .r 7 (.mv (.c (.d (.int .i64 0))))])
  (.seq (.seq (.reg [.r 10 (.mv (.t 0)),
     .c 11 (.f 29) [.t 10],
     .r 8 (.mv (.t 11))])
  (.seq (.reg [.r 12 (.mv (.t 8)),
     .r 13 (.bin .neq (.t 12) (.c (.d (.int .i64 0))))])
  (.cond (.t 13)
    (.seq (.reg [.r 14 (.mv (.t 8)),
       .r 6 (.mv (.c (.d (.int .i64 0)))),
       .r 7 (.mv (.t 14))])
    .ret)
    .skip)))
  (.seq (.reg [.r 15 (.mv (.t 0)),
     .r 16 (.mv (.t 2)),
     .c 17 (.f 30) [.t 15, .t 16],
     .r 9 (.mv (.t 17))])
  (.seq (.seq (.reg (.r 18 (.mv (.t 1)) :: .r 19 (.mv (.t 9)) :: .r 20 (.len (.t 19)) :: .r 21 (.bin .sub (.t 20) (.c (.d (.int .i64 1)))) :: .c 22 (.f 31) [.t 18, .c (.d (.int .i64 0)), .t 21] :: .r 23 (.mv (.t 22)) :: gapp [24, 25, 26] 23 false (.r 24 (.mv (.t 2)) :: .c 25 (.f 32) [.t 24] :: .r 26 (.not (.t 25)) :: []) (.r 27 (.pick (.t 23) (.c (.d (.bool true))) (.t 26)) :: [])))
  (.cond (.t 27)
    (.seq (.reg [.r 6 (.mv (.c (.d (.int .i64 0)))),
       .r 7 (.mv (.c (.d (.int .i64 1))))])
    .ret)
    .skip))
  (.seq (.reg [.r 28 (.mv (.t 9)),
     .r 29 (.mv (.t 1)),
     .r 30 (.idx 5 (.t 28) (.t 29)),
     .o 31 (.ldA 5 (.t 30)),
     .r 32 (.mv (.t 2)),
     .c 33 (.f 33) [.t 31, .t 32],
     .r 6 (.mv (.t 33)),
     .r 7 (.mv (.c (.d (.int .i64 0))))])
  .ret)))))
theorem fit_reply_StateAt : fits Tryd.prog 8 Tryd.f8 sc_reply_StateAt [.t 6, .t 7] 3 = true := by kernel_rfl

/-- interchange/interchangeref7.StateAt -/
def sc_interchangeref7_StateAt : SC :=
  (.seq (.reg [.r 6 (.mv (.c (.d (.int .i64 0)))),
     .r 7 (.mv (.c (.d (.int .i64 0))))])
  (.seq (.seq (.reg [.r 11 (.mv (.t 0)),
     .c 12 (.f 34) [.t 11],
     .r 8 (.mv (.t 12))])
  (.seq (.reg [.r 13 (.mv (.t 8)),
     .r 14 (.bin .neq (.t 13) (.c (.d (.int .i64 0))))])
  (.cond (.t 14)
    (.seq (.reg [.r 15 (.mv (.t 8)),
       .r 6 (.mv (.c (.d (.int .i64 0)))),
       .r 7 (.mv (.t 15))])
    .ret)
    .skip)))
  (.seq (.seq (.reg [.r 16 (.mv (.t 2)),
     .c 17 (.f 35) [.t 16, .c (.d (.int .i64 0)), .c (.d (.int .i64 1000000000000000))],
     .r 18 (.not (.t 17))])
  (.cond (.t 18)
    (.seq (.reg [.r 6 (.mv (.c (.d (.int .i64 0)))),
       .r 7 (.mv (.c (.d (.int .i64 1))))])
    .ret)
    .skip))
  (.seq (.reg [.r 20 (.mv (.t 0)),
     .r 21 (.mv (.t 2)),
     .c 22 (.f 36) [.t 20, .t 21],
     .r 19 (.mv (.t 22)),
     .r 23 (.ext (.t 19) 0),
     .r 24 (.ext (.t 19) 1),
     .r 9 (.mv (.t 23)),
     .r 10 (.mv (.t 24))])
  (.seq (.seq (.reg (.r 25 (.mv (.t 1)) :: .r 26 (.bin .lss (.t 25) (.c (.d (.int .i64 0)))) :: .r 27 (.mv (.t 26)) :: gapp [28, 29, 30, 31] 27 false (.r 28 (.mv (.t 1)) :: .r 29 (.mv (.t 9)) :: .r 30 (.len (.t 29)) :: .r 31 (.bin .geq (.t 28) (.t 30)) :: []) (.r 32 (.pick (.t 27) (.c (.d (.bool true))) (.t 31)) :: [])))
  (.cond (.t 32)
    (.seq (.reg [.r 6 (.mv (.c (.d (.int .i64 0)))),
       .r 7 (.mv (.c (.d (.int .i64 1))))])
    .ret)
    .skip))
  (.seq (.reg [.r 33 (.mv (.t 9)),
     .r 34 (.mv (.t 1)),
     .r 35 (.idx 5 (.t 33) (.t 34)),
     .o 36 (.ldA 5 (.t 35)),
     .r 37 (.mv (.t 2)),
     .c 38 (.f 37) [.t 36, .t 37],
     .r 6 (.mv (.t 38)),
     .r 7 (.mv (.c (.d (.int .i64 0))))])
  .ret))))))
theorem fit_interchangeref7_StateAt : fits Tryd.prog 9 Tryd.f9 sc_interchangeref7_StateAt [.t 6, .t 7] 3 = true := by kernel_rfl

def sc_reply_StandingAt_L1 : SC :=
  (.seq (.reg [.r 26 (.bin .lss (.t 25) (.t 24))])
  (.seq (.cond (.t 26)
    .skip
    (.exit 0))
  (.seq (.block 1 (.seq (.reg [.r 27 (.idx 5 (.t 23) (.t 25)),
       .o 28 (.ldA 5 (.t 27)),
       .w 9 (.boxM (.c (.agg [.d (.str []), .d (.int .i64 0), .d (.int .i64 0), .d (.int .i64 0), .d (.int .i64 0)]))),
       .w 0 (.st 5 (.t 9) (.t 28))])
    (.seq (.seq (.reg [.o 29 (.ldA 5 (.t 9)),
       .r 30 (.mv (.t 1)),
       .c 31 (.f 33) [.t 29, .t 30]])
    (.block 2 (.seq (.reg [.r 33 (.bin .eql (.t 31) (.c (.d (.int .i64 1)))),
         .r 32 (.mv (.t 33))])
      (.cond (.t 32)
        (.reg [.r 34 (.fld 0 (.t 7)),
           .o 35 (.ld1 (.t 34)),
           .r 36 (.bin .add (.t 35) (.c (.d (.int .i64 1)))),
           .r 37 (.fld 0 (.t 7)),
           .w 0 (.st 1 (.t 37) (.t 36))])
        (.seq (.reg [.r 39 (.bin .eql (.t 31) (.c (.d (.int .i64 2)))),
           .r 38 (.mv (.t 39))])
        (.cond (.t 38)
          (.reg [.r 40 (.fld 1 (.t 7)),
             .o 41 (.ld1 (.t 40)),
             .r 42 (.bin .add (.t 41) (.c (.d (.int .i64 1)))),
             .r 43 (.fld 1 (.t 7)),
             .w 0 (.st 1 (.t 43) (.t 42))])
          .skip))))))
    (.seq (.seq (.reg [.r 44 (.fld 4 (.t 9)),
       .o 45 (.ld1 (.t 44))])
    (.block 3 (.seq (.reg [.r 47 (.bin .eql (.t 45) (.c (.d (.int .i64 1)))),
         .r 46 (.mv (.t 47))])
      (.cond (.t 46)
        (.reg [.r 48 (.fld 2 (.t 7)),
           .o 49 (.ld1 (.t 48)),
           .r 50 (.bin .add (.t 49) (.c (.d (.int .i64 1)))),
           .r 51 (.fld 2 (.t 7)),
           .w 0 (.st 1 (.t 51) (.t 50))])
        (.seq (.reg [.r 53 (.bin .eql (.t 45) (.c (.d (.int .i64 2)))),
           .r 52 (.mv (.t 53))])
        (.cond (.t 52)
          (.reg [.r 54 (.fld 3 (.t 7)),
             .o 55 (.ld1 (.t 54)),
             .r 56 (.bin .add (.t 55) (.c (.d (.int .i64 1)))),
             .r 57 (.fld 3 (.t 7)),
             .w 0 (.st 1 (.t 57) (.t 56))])
          (.seq (.reg [.r 59 (.bin .eql (.t 45) (.c (.d (.int .i64 3)))),
             .r 58 (.mv (.t 59))])
          (.cond (.t 58)
            (.reg [.r 60 (.fld 4 (.t 7)),
               .o 61 (.ld1 (.t 60)),
               .r 62 (.bin .add (.t 61) (.c (.d (.int .i64 1)))),
               .r 63 (.fld 4 (.t 7)),
               .w 0 (.st 1 (.t 63) (.t 62))])
            .skip))))))))
    (.seq (.reg [.r 64 (.fld 3 (.t 9)),
       .o 65 (.ld1 (.t 64)),
       .r 66 (.fld 2 (.t 9)),
       .o 67 (.ld1 (.t 66)),
       .r 68 (.bin .gtr (.t 65) (.t 67))])
    (.cond (.t 68)
      (.reg [.r 69 (.fld 5 (.t 7)),
         .o 70 (.ld1 (.t 69)),
         .r 71 (.bin .add (.t 70) (.c (.d (.int .i64 1)))),
         .r 72 (.fld 5 (.t 7)),
         .w 0 (.st 1 (.t 72) (.t 71))])
      .skip))))))
  (.reg [.r 73 (.bin .add (.t 25) (.c (.d (.int .i64 1)))),
     .r 25 (.mv (.t 73))]))))
def sc_reply_StandingAt_B1 : SC := .block 0 (.loop sc_reply_StandingAt_L1)
/-- interchange/reply.StandingAt -/
def sc_reply_StandingAt : SC :=
  (.seq (.reg [.w 4 (.boxM (.c (.agg [.d (.int .i64 0), .d (.int .i64 0), .d (.int .i64 0), .d (.int .i64 0), .d (.int .i64 0), .d (.int .i64 0)]))),
     .r 5 (.mv (.c (.d (.int .i64 0))))])
  (.seq (.seq (.reg [.r 10 (.mv (.t 0)),
     .c 11 (.f 29) [.t 10],
     .r 6 (.mv (.t 11))])
  (.seq (.reg [.r 12 (.mv (.t 6)),
     .r 13 (.bin .neq (.t 12) (.c (.d (.int .i64 0))))])
  (.cond (.t 13)
    (.seq (.reg [.r 14 (.build [.d (.int .i64 0), .d (.int .i64 0), .d (.int .i64 0), .d (.int .i64 0), .d (.int .i64 0), .d (.int .i64 0)] []),
       .r 15 (.mv (.t 6)),
       .w 0 (.st 6 (.t 4) (.t 14)),
       .r 5 (.mv (.t 15))])
    .ret)
    .skip)))
  (.seq (.seq (.reg [.r 16 (.mv (.t 1)),
     .c 17 (.f 32) [.t 16],
     .r 18 (.not (.t 17))])
  (.cond (.t 18)
    (.seq (.reg [.r 19 (.build [.d (.int .i64 0), .d (.int .i64 0), .d (.int .i64 0), .d (.int .i64 0), .d (.int .i64 0), .d (.int .i64 0)] []),
       .w 0 (.st 6 (.t 4) (.t 19)),
       .r 5 (.mv (.c (.d (.int .i64 1))))])
    .ret)
    .skip))
  (.seq (.reg [.r 20 (.build [.d (.int .i64 0), .d (.int .i64 0), .d (.int .i64 0), .d (.int .i64 0), .d (.int .i64 0), .d (.int .i64 0)] []),
     .w 7 (.boxM (.c (.agg [.d (.int .i64 0), .d (.int .i64 0), .d (.int .i64 0), .d (.int .i64 0), .d (.int .i64 0), .d (.int .i64 0)]))),
     .w 0 (.st 6 (.t 7) (.t 20))])
  (.seq (.seq (.reg [.r 21 (.mv (.t 0)),
     .r 22 (.mv (.t 1)),
     .c 23 (.f 30) [.t 21, .t 22],
     .r 24 (.len (.t 23)),
     .r 25 (.mv (.c (.d (.int .i64 0))))])
  sc_reply_StandingAt_B1)
  (.seq (.reg [.o 74 (.ldA 6 (.t 7)),
     .w 0 (.st 6 (.t 4) (.t 74)),
     .r 5 (.mv (.c (.d (.int .i64 0))))])
  .ret))))))
theorem fit_reply_StandingAt : fits Tryd.prog 10 Tryd.f10 sc_reply_StandingAt [.cell 4 6, .t 5] 2 = true := by kernel_rfl

def sc_interchangeref7_StandingAt_L1 : SC :=
  (.seq (.seq (.reg [.r 27 (.mv (.t 10)),
     .r 28 (.mv (.t 8)),
     .r 29 (.len (.t 28)),
     .r 30 (.bin .lss (.t 27) (.t 29))])
  (.cond (.t 30)
    .skip
    (.exit 0)))
  (.seq (.block 1 (.seq (.seq (.reg [.r 33 (.mv (.t 8)),
       .r 34 (.mv (.t 10)),
       .r 35 (.idx 5 (.t 33) (.t 34)),
       .o 36 (.ldA 5 (.t 35)),
       .r 37 (.mv (.t 1)),
       .c 38 (.f 37) [.t 36, .t 37]])
    (.block 2 (.seq (.reg [.r 40 (.bin .eql (.t 38) (.c (.d (.int .i64 1)))),
         .r 39 (.mv (.t 40))])
      (.cond (.t 39)
        (.seq (.reg [.r 41 (.fld 0 (.t 7)),
           .o 42 (.ld1 (.t 41)),
           .r 43 (.bin .add (.t 42) (.c (.d (.int .i64 1)))),
           .r 44 (.fld 0 (.t 7)),
           .w 0 (.st 1 (.t 44) (.t 43))])
        (.exit 1))
        (.seq (.reg [.r 46 (.bin .eql (.t 38) (.c (.d (.int .i64 2)))),
           .r 45 (.mv (.t 46))])
        (.cond (.t 45)
          (.seq (.reg [.r 47 (.fld 1 (.t 7)),
             .o 48 (.ld1 (.t 47)),
             .r 49 (.bin .add (.t 48) (.c (.d (.int .i64 1)))),
             .r 50 (.fld 1 (.t 7)),
             .w 0 (.st 1 (.t 50) (.t 49))])
          (.exit 1))
          .skip))))))
    (.seq (.seq (.reg [.r 51 (.mv (.t 8)),
       .r 52 (.mv (.t 10)),
       .r 53 (.idx 5 (.t 51) (.t 52)),
       .r 54 (.fld 4 (.t 53)),
       .o 55 (.ld1 (.t 54))])
    (.block 3 (.seq (.reg [.r 61 (.bin .eql (.t 55) (.c (.d (.int .i64 1)))),
         .r 60 (.mv (.t 61))])
      (.cond (.t 60)
        (.reg [.r 62 (.fld 2 (.t 7)),
           .o 63 (.ld1 (.t 62)),
           .r 64 (.bin .add (.t 63) (.c (.d (.int .i64 1)))),
           .r 65 (.fld 2 (.t 7)),
           .w 0 (.st 1 (.t 65) (.t 64))])
        (.seq (.reg [.r 67 (.bin .eql (.t 55) (.c (.d (.int .i64 2)))),
           .r 66 (.mv (.t 67))])
        (.cond (.t 66)
          (.reg [.r 68 (.fld 3 (.t 7)),
             .o 69 (.ld1 (.t 68)),
             .r 70 (.bin .add (.t 69) (.c (.d (.int .i64 1)))),
             .r 71 (.fld 3 (.t 7)),
             .w 0 (.st 1 (.t 71) (.t 70))])
          (.reg [.r 56 (.fld 4 (.t 7)),
             .o 57 (.ld1 (.t 56)),
             .r 58 (.bin .add (.t 57) (.c (.d (.int .i64 1)))),
             .r 59 (.fld 4 (.t 7)),
             .w 0 (.st 1 (.t 59) (.t 58))])))))))
    (.seq (.regD [.r 72 (.mv (.t 8)),
       .r 73 (.mv (.t 10)),
       .r 74 (.idx 5 (.t 72) (.t 73)),
       .r 75 (.fld 3 (.t 74)),
       .r 76 (.ld1 (.t 75)),
       .r 77 (.mv (.t 8)),
       .r 78 (.mv (.t 10)),
       .r 79 (.idx 5 (.t 77) (.t 78)),
       .r 80 (.fld 2 (.t 79)),
       .r 81 (.ld1 (.t 80)),
       .r 82 (.bin .gtr (.t 76) (.t 81))])
    (.cond (.t 82)
      (.reg [.r 83 (.fld 5 (.t 7)),
         .o 84 (.ld1 (.t 83)),
         .r 85 (.bin .add (.t 84) (.c (.d (.int .i64 1)))),
         .r 86 (.fld 5 (.t 7)),
         .w 0 (.st 1 (.t 86) (.t 85))])
      .skip)))))
  (.reg [.r 31 (.mv (.t 10)),
     .r 32 (.bin .add (.t 31) (.c (.d (.int .i64 1)))),
     .r 10 (.mv (.t 32))])))
def sc_interchangeref7_StandingAt_B1 : SC := .block 0 (.loop sc_interchangeref7_StandingAt_L1)
/-- interchange/interchangeref7.StandingAt -/
def sc_interchangeref7_StandingAt : SC :=
  (.seq (.reg [.w 4 (.boxM (.c (.agg [.d (.int .i64 0), .d (.int .i64 0), .d (.int .i64 0), .d (.int .i64 0), .d (.int .i64 0), .d (.int .i64 0)]))),
     .r 5 (.mv (.c (.d (.int .i64 0))))])
  (.seq (.seq (.reg [.r 11 (.mv (.t 0)),
     .c 12 (.f 34) [.t 11],
     .r 6 (.mv (.t 12))])
  (.seq (.reg [.r 13 (.mv (.t 6)),
     .r 14 (.bin .neq (.t 13) (.c (.d (.int .i64 0))))])
  (.cond (.t 14)
    (.seq (.reg [.r 15 (.build [.d (.int .i64 0), .d (.int .i64 0), .d (.int .i64 0), .d (.int .i64 0), .d (.int .i64 0), .d (.int .i64 0)] []),
       .r 16 (.mv (.t 6)),
       .w 0 (.st 6 (.t 4) (.t 15)),
       .r 5 (.mv (.t 16))])
    .ret)
    .skip)))
  (.seq (.seq (.reg [.r 17 (.mv (.t 1)),
     .c 18 (.f 35) [.t 17, .c (.d (.int .i64 0)), .c (.d (.int .i64 1000000000000000))],
     .r 19 (.not (.t 18))])
  (.cond (.t 19)
    (.seq (.reg [.r 20 (.build [.d (.int .i64 0), .d (.int .i64 0), .d (.int .i64 0), .d (.int .i64 0), .d (.int .i64 0), .d (.int .i64 0)] []),
       .w 0 (.st 6 (.t 4) (.t 20)),
       .r 5 (.mv (.c (.d (.int .i64 1))))])
    .ret)
    .skip))
  (.seq (.reg [.w 7 (.boxM (.c (.agg [.d (.int .i64 0), .d (.int .i64 0), .d (.int .i64 0), .d (.int .i64 0), .d (.int .i64 0), .d (.int .i64 0)])))])
  (.seq (.reg [.r 22 (.mv (.t 0)),
     .r 23 (.mv (.t 1)),
     .c 24 (.f 36) [.t 22, .t 23],
     .r 21 (.mv (.t 24)),
     .r 25 (.ext (.t 21) 0),
     .r 26 (.ext (.t 21) 1),
     .r 8 (.mv (.t 25)),
     .r 9 (.mv (.t 26))])
  (.seq (.seq (.reg [.r 10 (.mv (.c (.d (.int .i64 0))))])
  sc_interchangeref7_StandingAt_B1)
  (.seq (.reg [.o 87 (.ldA 6 (.t 7)),
     .w 0 (.st 6 (.t 4) (.t 87)),
     .r 5 (.mv (.c (.d (.int .i64 0))))])
  .ret)))))))
theorem fit_interchangeref7_StandingAt : fits Tryd.prog 11 Tryd.f11 sc_interchangeref7_StandingAt [.cell 4 6, .t 5] 2 = true := by kernel_rfl

def sc_reply_Again_L1 : SC :=
  (.seq (.reg [.r 37 (.bin .lss (.t 36) (.t 35))])
  (.seq (.cond (.t 37)
    .skip
    (.exit 0))
  (.seq (.block 1 (.seq (.reg [.r 38 (.idx 5 (.t 34) (.t 36)),
       .o 39 (.ldA 5 (.t 38)),
       .w 13 (.boxM (.c (.agg [.d (.str []), .d (.int .i64 0), .d (.int .i64 0), .d (.int .i64 0), .d (.int .i64 0)]))),
       .w 0 (.st 5 (.t 13) (.t 39))])
    (.seq (.regE [.r 40 (.mv (.t 9)),
       .r 41 (.fld 0 (.t 13)),
       .r 42 (.ld1 (.t 41)),
       .r 43 (.ldA 5 (.t 13)),
       .r 44 (.mv (.t 1)),
       .c 45 (.f 33) [.t 43, .t 44],
       .x 0 (.mset .str (.t 40) (.t 42) (.t 45)) []])
    (.seq (.reg [.r 46 (.mv (.t 10)),
       .r 47 (.fld 0 (.t 13)),
       .o 48 (.ld1 (.t 47)),
       .o 49 (.look .str (.d (.int .i64 0)) false (.t 46) (.t 48)),
       .r 50 (.bin .add (.t 49) (.c (.d (.int .i64 1)))),
       .w 0 (.mset .str (.t 46) (.t 48) (.t 50))])
    (.seq (.reg (.r 51 (.fld 4 (.t 13)) :: .o 52 (.ld1 (.t 51)) :: .r 53 (.bin .eql (.t 52) (.c (.d (.int .i64 1)))) :: .r 54 (.mv (.t 53)) :: gapp [55, 56, 57] 54 false (.r 55 (.fld 4 (.t 13)) :: .r 56 (.ld1 (.t 55)) :: .r 57 (.bin .eql (.t 56) (.c (.d (.int .i64 2)))) :: []) (.r 58 (.pick (.t 54) (.c (.d (.bool true))) (.t 57)) :: [])))
    (.cond (.t 58)
      (.reg [.r 59 (.mv (.t 11)),
         .r 60 (.fld 0 (.t 13)),
         .o 61 (.ld1 (.t 60)),
         .w 0 (.mset .str (.t 59) (.t 61) (.c (.d (.bool true))))])
      .skip))))))
  (.reg [.r 62 (.bin .add (.t 36) (.c (.d (.int .i64 1)))),
     .r 36 (.mv (.t 62))]))))
def sc_reply_Again_B1 : SC := .block 0 (.loop sc_reply_Again_L1)
def sc_reply_Again_L2 : SC :=
  (.seq (.reg (.r 70 (.mv (.t 16)) :: .r 71 (.bin .eql (.t 70) (.c (.d (.int .i64 2)))) :: .r 72 (.mv (.t 71)) :: gapp [73, 74, 75, 76] 72 true (.r 73 (.mv (.t 11)) :: .r 74 (.mv (.t 15)) :: .r 75 (.look .str (.d (.bool false)) false (.t 73) (.t 74)) :: .r 76 (.not (.t 75)) :: []) (.r 77 (.pick (.t 72) (.t 76) (.c (.d (.bool false)))) :: .r 78 (.mv (.t 77)) :: gapp [79, 80, 81, 82, 83] 78 true (.r 79 (.mv (.t 10)) :: .r 80 (.mv (.t 15)) :: .r 81 (.look .str (.d (.int .i64 0)) false (.t 79) (.t 80)) :: .r 82 (.mv (.t 2)) :: .r 83 (.bin .lss (.t 81) (.t 82)) :: []) (.r 84 (.pick (.t 78) (.t 83) (.c (.d (.bool false)))) :: []))))
    (.cond (.t 84)
      (.reg [.r 85 (.mv (.t 14)),
         .r 86 (.mv (.t 15)),
         .r 87 (.bslice 1 [.t 86]),
         .w 88 (.app 9 1 (.t 85) (.t 87)),
         .r 14 (.mv (.t 88))])
      .skip))
def sc_reply_Again_B2 : SC := .rangeM 63 (.t 9) 64 65 66 67 2 3 [.r 68 (.ext (.t 67) 0),
   .r 69 (.ext (.t 67) 1),
   .r 15 (.mv (.t 68)),
   .r 16 (.mv (.t 69))] sc_reply_Again_L2
/-- interchange/reply.Again -/
def sc_reply_Again : SC :=
  (.seq (.reg [.r 6 (.mv (.c (.nils))),
     .r 7 (.mv (.c (.d (.int .i64 0))))])
  (.seq (.seq (.reg [.r 17 (.mv (.t 0)),
     .c 18 (.f 29) [.t 17],
     .r 8 (.mv (.t 18))])
  (.seq (.reg [.r 19 (.mv (.t 8)),
     .r 20 (.bin .neq (.t 19) (.c (.d (.int .i64 0))))])
  (.cond (.t 20)
    (.seq (.reg [.r 21 (.mv (.t 8)),
       .r 6 (.mv (.c (.nils))),
       .r 7 (.mv (.t 21))])
    .ret)
    .skip)))
  (.seq (.seq (.reg (.r 22 (.mv (.t 1)) :: .c 23 (.f 32) [.t 22] :: .r 24 (.not (.t 23)) :: .r 25 (.mv (.t 24)) :: gapp [26, 27] 25 false (.r 26 (.mv (.t 2)) :: .c 27 (.f 31) [.t 26, .c (.d (.int .i64 1)), .c (.d (.int .i64 20))] :: []) (.r 28 (.pick (.t 25) (.c (.d (.bool true))) (.t 27)) :: [])))
  (.cond (.t 28)
    (.seq (.reg [.r 6 (.mv (.c (.nils))),
       .r 7 (.mv (.c (.d (.int .i64 1))))])
    .ret)
    .skip))
  (.seq (.reg [.w 29 (.mkmap .str),
     .r 9 (.mv (.t 29))])
  (.seq (.reg [.w 30 (.mkmap .str),
     .r 10 (.mv (.t 30))])
  (.seq (.reg [.w 31 (.mkmap .str),
     .r 11 (.mv (.t 31))])
  (.seq (.seq (.reg [.r 32 (.mv (.t 0)),
     .r 33 (.mv (.t 1)),
     .c 34 (.f 30) [.t 32, .t 33],
     .r 35 (.len (.t 34)),
     .r 36 (.mv (.c (.d (.int .i64 0))))])
  sc_reply_Again_B1)
  (.seq (.reg [.r 14 (.mv (.c (.nils)))])
  (.seq sc_reply_Again_B2
  (.seq (.reg [.r 89 (.mv (.t 14)),
     .p (some 90) (.f 38) [.t 89]])
  (.seq (.reg [.r 91 (.mv (.t 14)),
     .r 6 (.mv (.t 91)),
     .r 7 (.mv (.c (.d (.int .i64 0))))])
  .ret)))))))))))
theorem fit_reply_Again : fits Tryd.prog 12 Tryd.f12 sc_reply_Again [.t 6, .t 7] 3 = true := by kernel_rfl

def sc_interchangeref7_Again_L1 : SC :=
  (.seq (.seq (.reg [.r 44 (.mv (.t 16)),
     .r 45 (.mv (.t 9)),
     .r 46 (.len (.t 45)),
     .r 47 (.bin .lss (.t 44) (.t 46))])
  (.cond (.t 47)
    .skip
    (.exit 2)))
  (.seq (.block 3 (.seq (.seq (.regD [.r 50 (.mv (.t 9)),
       .r 51 (.mv (.t 16)),
       .r 52 (.idx 5 (.t 50) (.t 51)),
       .r 53 (.fld 0 (.t 52)),
       .r 54 (.ld1 (.t 53)),
       .r 55 (.mv (.t 9)),
       .r 56 (.mv (.t 12)),
       .r 57 (.idx 5 (.t 55) (.t 56)),
       .r 58 (.fld 0 (.t 57)),
       .r 59 (.ld1 (.t 58)),
       .r 60 (.bin .neq (.t 54) (.t 59))])
    (.cond (.t 60)
      (.exit 3)
      .skip))
    (.seq (.reg [.r 61 (.mv (.t 13)),
       .r 62 (.bin .add (.t 61) (.c (.d (.int .i64 1)))),
       .r 13 (.mv (.t 62))])
    (.seq (.reg (.r 63 (.mv (.t 14)) :: .r 64 (.mv (.t 63)) :: gapp [65, 66, 67, 68, 69, 70, 71, 72, 73, 74, 75, 76, 77, 78] 64 false (.r 65 (.mv (.t 9)) :: .r 66 (.mv (.t 16)) :: .r 67 (.idx 5 (.t 65) (.t 66)) :: .r 68 (.fld 3 (.t 67)) :: .r 69 (.ld1 (.t 68)) :: .r 70 (.bin .geq (.t 69) (.c (.d (.int .i64 0)))) :: .r 71 (.mv (.t 70)) :: gapp [72, 73, 74, 75, 76, 77] 71 true (.r 72 (.mv (.t 9)) :: .r 73 (.mv (.t 16)) :: .r 74 (.idx 5 (.t 72) (.t 73)) :: .r 75 (.fld 4 (.t 74)) :: .r 76 (.ld1 (.t 75)) :: .r 77 (.bin .neq (.t 76) (.c (.d (.int .i64 3)))) :: []) (.r 78 (.pick (.t 71) (.t 77) (.c (.d (.bool false)))) :: [])) (.r 79 (.pick (.t 64) (.c (.d (.bool true))) (.t 78)) :: .r 14 (.mv (.t 79)) :: [])))
    (.reg (.r 80 (.mv (.t 15)) :: .r 81 (.mv (.t 80)) :: gapp [82, 83, 84] 81 true (.r 82 (.mv (.t 16)) :: .r 83 (.mv (.t 12)) :: .r 84 (.bin .leq (.t 82) (.t 83)) :: []) (.r 85 (.pick (.t 81) (.t 84) (.c (.d (.bool false)))) :: .r 15 (.mv (.t 85)) :: [])))))))
  (.reg [.r 48 (.mv (.t 16)),
     .r 49 (.bin .add (.t 48) (.c (.d (.int .i64 1)))),
     .r 16 (.mv (.t 49))])))
def sc_interchangeref7_Again_B1 : SC := .block 2 (.loop sc_interchangeref7_Again_L1)
def sc_interchangeref7_Again_L2 : SC :=
  (.seq (.seq (.regD (.r 107 (.mv (.t 17)) :: .r 108 (.bin .gtr (.t 107) (.c (.d (.int .i64 0)))) :: .r 109 (.mv (.t 108)) :: gapp [110, 111, 112, 113, 114, 115, 116, 117, 118, 119, 120] 109 true (.r 110 (.mv (.t 11)) :: .r 111 (.mv (.t 17)) :: .r 112 (.bin .sub (.t 111) (.c (.d (.int .i64 1)))) :: .r 113 (.idx 1 (.t 110) (.t 112)) :: .r 114 (.ld1 (.t 113)) :: .r 115 (.mv (.t 9)) :: .r 116 (.mv (.t 12)) :: .r 117 (.idx 5 (.t 115) (.t 116)) :: .r 118 (.fld 0 (.t 117)) :: .r 119 (.ld1 (.t 118)) :: .r 120 (.bin .gtr (.t 114) (.t 119)) :: []) (.r 121 (.pick (.t 109) (.t 120) (.c (.d (.bool false)))) :: [])))
  (.cond (.t 121)
    .skip
    (.exit 4)))
  (.block 5 (.reg [.r 122 (.mv (.t 17)),
       .r 123 (.bin .sub (.t 122) (.c (.d (.int .i64 1)))),
       .r 17 (.mv (.t 123))])))
def sc_interchangeref7_Again_B2 : SC := .block 4 (.loop sc_interchangeref7_Again_L2)
def sc_interchangeref7_Again_R10 : SC := (.reg [.r 42 (.mv (.t 12)),
     .r 43 (.bin .add (.t 42) (.c (.d (.int .i64 1)))),
     .r 12 (.mv (.t 43))])
def sc_interchangeref7_Again_L3 : SC :=
  (.seq (.seq (.reg [.r 38 (.mv (.t 12)),
     .r 39 (.mv (.t 9)),
     .r 40 (.len (.t 39)),
     .r 41 (.bin .lss (.t 38) (.t 40))])
  (.cond (.t 41)
    .skip
    (.exit 0)))
  (.seq (.block 1 (.seq (.reg [.r 13 (.mv (.c (.d (.int .i64 0)))),
       .r 14 (.mv (.c (.d (.bool false)))),
       .r 15 (.mv (.c (.d (.bool true))))])
    (.seq (.seq (.reg [.r 16 (.mv (.c (.d (.int .i64 0))))])
    sc_interchangeref7_Again_B1)
    (.seq (.seq (.reg (.r 86 (.mv (.t 15)) :: .r 87 (.not (.t 86)) :: .r 88 (.mv (.t 87)) :: gapp [89] 88 false (.r 89 (.mv (.t 14)) :: []) (.r 90 (.pick (.t 88) (.c (.d (.bool true))) (.t 89)) :: .r 91 (.mv (.t 90)) :: gapp [92, 93, 94] 91 false (.r 92 (.mv (.t 13)) :: .r 93 (.mv (.t 2)) :: .r 94 (.bin .geq (.t 92) (.t 93)) :: []) (.r 95 (.pick (.t 91) (.c (.d (.bool true))) (.t 94)) :: .r 96 (.mv (.t 95)) :: gapp [97, 98, 99, 100, 101, 102, 103] 96 false (.r 97 (.mv (.t 9)) :: .r 98 (.mv (.t 12)) :: .r 99 (.idx 5 (.t 97) (.t 98)) :: .r 100 (.ldA 5 (.t 99)) :: .r 101 (.mv (.t 1)) :: .c 102 (.f 37) [.t 100, .t 101] :: .r 103 (.bin .neq (.t 102) (.c (.d (.int .i64 2)))) :: []) (.r 104 (.pick (.t 96) (.c (.d (.bool true))) (.t 103)) :: [])))))
    (.cond (.t 104)
      (.exit 1)
      .skip))
    (.seq (.reg [.r 105 (.mv (.t 11)),
       .r 106 (.len (.t 105)),
       .r 17 (.mv (.t 106))])
    (.seq sc_interchangeref7_Again_B2
    (.seq (.reg [.r 18 (.mv (.c (.nils)))])
    (.seq (.reg [.r 124 (.mv (.t 18)),
       .r 125 (.mv (.t 11)),
       .r 126 (.mv (.t 17)),
       .r 127 (.slc 1 (.t 125) none (some (.t 126))),
       .w 128 (.app 9 1 (.t 124) (.t 127)),
       .r 18 (.mv (.t 128))])
    (.seq (.reg [.r 129 (.mv (.t 18)),
       .r 130 (.mv (.t 9)),
       .r 131 (.mv (.t 12)),
       .r 132 (.idx 5 (.t 130) (.t 131)),
       .r 133 (.fld 0 (.t 132)),
       .o 134 (.ld1 (.t 133)),
       .r 135 (.bslice 1 [.t 134]),
       .w 136 (.app 9 1 (.t 129) (.t 135)),
       .r 18 (.mv (.t 136))])
    (.reg [.r 137 (.mv (.t 18)),
       .r 138 (.mv (.t 11)),
       .r 139 (.mv (.t 17)),
       .r 140 (.slc 1 (.t 138) (some (.t 139)) none),
       .w 141 (.app 9 1 (.t 137) (.t 140)),
       .r 11 (.mv (.t 141))]))))))))))
  sc_interchangeref7_Again_R10))
def sc_interchangeref7_Again_B3 : SC := .block 0 (.loop sc_interchangeref7_Again_L3)
/-- interchange/interchangeref7.Again -/
def sc_interchangeref7_Again : SC :=
  (.seq (.reg [.r 6 (.mv (.c (.nils))),
     .r 7 (.mv (.c (.d (.int .i64 0))))])
  (.seq (.seq (.reg [.r 19 (.mv (.t 0)),
     .c 20 (.f 34) [.t 19],
     .r 8 (.mv (.t 20))])
  (.seq (.reg [.r 21 (.mv (.t 8)),
     .r 22 (.bin .neq (.t 21) (.c (.d (.int .i64 0))))])
  (.cond (.t 22)
    (.seq (.reg [.r 23 (.mv (.t 8)),
       .r 6 (.mv (.c (.nils))),
       .r 7 (.mv (.t 23))])
    .ret)
    .skip)))
  (.seq (.seq (.reg (.r 24 (.mv (.t 1)) :: .c 25 (.f 35) [.t 24, .c (.d (.int .i64 0)), .c (.d (.int .i64 1000000000000000))] :: .r 26 (.not (.t 25)) :: .r 27 (.mv (.t 26)) :: gapp [28, 29, 30] 27 false (.r 28 (.mv (.t 2)) :: .c 29 (.f 35) [.t 28, .c (.d (.int .i64 1)), .c (.d (.int .i64 20))] :: .r 30 (.not (.t 29)) :: []) (.r 31 (.pick (.t 27) (.c (.d (.bool true))) (.t 30)) :: [])))
  (.cond (.t 31)
    (.seq (.reg [.r 6 (.mv (.c (.nils))),
       .r 7 (.mv (.c (.d (.int .i64 1))))])
    .ret)
    .skip))
  (.seq (.reg [.r 33 (.mv (.t 0)),
     .r 34 (.mv (.t 1)),
     .c 35 (.f 36) [.t 33, .t 34],
     .r 32 (.mv (.t 35)),
     .r 36 (.ext (.t 32) 0),
     .r 37 (.ext (.t 32) 1),
     .r 9 (.mv (.t 36)),
     .r 10 (.mv (.t 37))])
  (.seq (.reg [.r 11 (.mv (.c (.nils)))])
  (.seq (.seq (.reg [.r 12 (.mv (.c (.d (.int .i64 0))))])
  sc_interchangeref7_Again_B3)
  (.seq (.reg [.r 142 (.mv (.t 11)),
     .r 6 (.mv (.t 142)),
     .r 7 (.mv (.c (.d (.int .i64 0))))])
  .ret)))))))
theorem fit_interchangeref7_Again : fits Tryd.prog 13 Tryd.f13 sc_interchangeref7_Again [.t 6, .t 7] 3 = true := by kernel_rfl

set_option maxRecDepth 100000 in
set_option maxHeartbeats 40000000 in
noncomputable def sims_G1_4_0 : (∀ (x0 : List Tapi_BookEvent) (x1 : Int) (x2 : Int), {m : Option (Int × Int) // ∀ r, m = some r → PureSpec Tryd.prog 8 [.slice (List.map rTapi_BookEvent x0), .int .i64 x1, .int .i64 x2] (.tup [.int .i64 r.1, .int .i64 r.2])}) × (∀ (x0 : List Tapi_BookEvent) (x1 : Int) (x2 : Int), {m : Option (Int × Int) // ∀ r, m = some r → PureSpec Tryd.prog 9 [.slice (List.map rTapi_BookEvent x0), .int .i64 x1, .int .i64 x2] (.tup [.int .i64 r.1, .int .i64 r.2])}) × (∀ (x0 : List Tapi_BookEvent) (x1 : Int), {m : Option (Tapi_Standing × Int) // ∀ r, m = some r → PureSpec Tryd.prog 10 [.slice (List.map rTapi_BookEvent x0), .int .i64 x1] (.tup [.agg (rTapi_Standing r.1), .int .i64 r.2])}) × (∀ (x0 : List Tapi_BookEvent) (x1 : Int), {m : Option (Tapi_Standing × Int) // ∀ r, m = some r → PureSpec Tryd.prog 11 [.slice (List.map rTapi_BookEvent x0), .int .i64 x1] (.tup [.agg (rTapi_Standing r.1), .int .i64 r.2])}) × (∀ (x0 : List Tapi_BookEvent) (x1 : Int) (x2 : Int), {m : Option ((List (List UInt8)) × Int) // ∀ r, m = some r → PureSpec Tryd.prog 12 [.slice (List.map rTapi_BookEvent x0), .int .i64 x1, .int .i64 x2] (.tup [.slice (List.map rowS r.1), .int .i64 r.2])}) × (∀ (x0 : List Tapi_BookEvent) (x1 : Int) (x2 : Int), {m : Option ((List (List UInt8)) × Int) // ∀ r, m = some r → PureSpec Tryd.prog 13 [.slice (List.map rTapi_BookEvent x0), .int .i64 x1, .int .i64 x2] (.tup [.slice (List.map rowS r.1), .int .i64 r.2])}) := by
  refine ⟨?g0, ?g1, ?g2, ?g3, ?g4, ?g5⟩
  case' g0 => (intro x0 x1 x2; apply Subtype.mk; intro r hm; apply pure_walk Tryd.func8 fit_reply_StateAt; unfold sc_reply_StateAt)
  case' g1 => (intro x0 x1 x2; apply Subtype.mk; intro r hm; apply pure_walk Tryd.func9 fit_interchangeref7_StateAt; unfold sc_interchangeref7_StateAt)
  case' g2 => (intro x0 x1; apply Subtype.mk; intro r hm; apply pure_walk Tryd.func10 fit_reply_StandingAt; unfold sc_reply_StandingAt)
  case' g3 => (intro x0 x1; apply Subtype.mk; intro r hm; apply pure_walk Tryd.func11 fit_interchangeref7_StandingAt; unfold sc_interchangeref7_StandingAt)
  case' g4 => (intro x0 x1 x2; apply Subtype.mk; intro r hm; apply pure_walk Tryd.func12 fit_reply_Again; unfold sc_reply_Again)
  case' g5 => (intro x0 x1 x2; apply Subtype.mk; intro r hm; apply pure_walk Tryd.func13 fit_interchangeref7_Again; unfold sc_interchangeref7_Again)
  all_goals (repeat' (first | ((with_reducible apply W_frzS (x := sc_interchangeref7_Again_R10) 11); (focus (simp only [push_cast, seval, -List.reduceReplicate]; (try rfl); done)); (focus (simp only [push_cast, seval, -List.reduceReplicate]; (try rfl); done)); (focus (simp only [push_cast, seval, -List.reduceReplicate]; (try rfl); done)); unfold sc_interchangeref7_Again_R10) | ((with_reducible apply W_same sc_interchangeref7_Again_R10); unfold sc_interchangeref7_Again_R10) | with_reducible refine W_seq ?_ | with_reducible refine W_reg ?_ | with_reducible refine W_regD ?_ | with_reducible refine W_regE ?_ | with_reducible refine W_block ?_ | with_reducible refine W_skip ?_ | with_reducible refine W_ret ?_ | with_reducible refine W_exit ?_ | with_reducible refine O_nil ?_ | with_reducible refine K_seq ?_ | with_reducible refine K_seqE ?_ | with_reducible refine K_seqR ?_ | with_reducible refine K_block ?_ | with_reducible refine K_blockE ?_ | ((with_reducible apply K_blockN); decide) | with_reducible refine O_o2r ?_ | ((with_reducible apply O_idxr hm); (iterate 2 (simp only [push_cast, seval, -List.reduceReplicate]; rfl)); (intro _; rfl); intro e hm) | ((with_reducible apply O_slcr hm); (iterate 3 (simp only [push_cast, seval, -List.reduceReplicate]; rfl)); (intro _; rfl); intro e hm) | ((with_reducible apply O_r); (simp only [push_cast, seval, -List.reduceReplicate]; rfl); (first | exact trivial)) | ((with_reducible apply O_and hm); (simp only [push_cast, seval, -List.reduceReplicate]; rfl); rfl; intro v hm; rotate_left; intro v g hm) | ((with_reducible apply O_or hm); (simp only [push_cast, seval, -List.reduceReplicate]; rfl); rfl; intro v hm; rotate_left; intro v g hm) | ((with_reducible apply O_cF hm); (simp only [push_cast, seval, -List.reduceReplicate]; rfl); (first | apply spec_reply_CheckBook _ | apply spec_reply_at _ _ | apply spec_kit_Outside _ _ _ | apply spec_kit_IsMoment _ | apply spec_reply_stateOf _ _ | apply spec_interchangeref7_CheckBook _ | apply spec_interchangeref7_within _ _ _ | apply spec_interchangeref7_book _ _ | apply spec_interchangeref7_state _ _); (any_goals ((repeat' (first | rfl)); done)); intro x hm) | ((with_reducible apply O_w); (simp only [push_cast, seval, -List.reduceReplicate]; rfl); (first | exact trivial)) | ((with_reducible apply O_appV hm); (iterate 4 (simp only [push_cast, seval, -List.reduceReplicate]; rfl)); (focus ((repeat' (first | rfl | (with_reducible first | apply dv_slice | apply fold_nil | apply fold_cons))); done)); decide; (intro _; rfl); intro hm) | ((with_reducible apply O_appN hm); (focus (simp only [push_cast, seval, -List.reduceReplicate]; done)); (iterate 2 (simp only [push_cast, seval, -List.reduceReplicate]; rfl)); (focus ((repeat' (first | rfl)); done)); decide; (intro _; rfl); intro hm) | ((with_reducible apply O_x); (simp only [push_cast, seval, -List.reduceReplicate]; rfl); (first | exact trivial); (focus ((repeat' (first | exact Rer_nil)); done))) | ((with_reducible apply O_lookD); (iterate 3 (simp only [push_cast, seval, -List.reduceReplicate]; rfl)); (iterate 2 rfl)) | ((with_reducible apply S_condB hm); (simp only [push_cast, seval, -List.reduceReplicate]; rfl); intro hm; rotate_left; intro hm) | ((with_reducible apply K_end2 hm); (focus (simp only [resOf, resL, RV.get, push_cast, seval]; rfl)); (focus (first | (dsimp only; done))); (focus ((repeat' (first | rfl | (with_reducible first | apply fT_Tapi_Standing | apply f_tup | apply f_agg | apply dv_slice | apply f_cons | apply fold_nil))); done))) | ((with_reducible apply K_bool hm); (simp only [push_cast, seval, -List.reduceReplicate]; rfl)) | ((with_reducible apply K_leave hm); intro r hm) | ((apply S_loopY (b := 0) (X := sc_reply_StandingAt_B1) (x := sc_reply_StandingAt_L1) rfl (fun (c : SV × Ch × SV × SV) (s : Tapi_Standing × Int) => st [(1, c.1), (4, .ref 4 0), (7, .ref 7 0), (23, c.2.2.1), (24, c.2.2.2), (25, .d (.int .i64 s.2))] [(4, c.2.1), (7, .box (dR (rTapi_Standing s.1)))]) (c := (_, _, _, _)) (s0 := (_, _)) hm); (focus (first | (dsimp only; done))); (with_reducible refine Then.mk ?_ ?_)) | ((apply S_loopY (b := 0) (X := sc_interchangeref7_StandingAt_B1) (x := sc_interchangeref7_StandingAt_L1) rfl (fun (c : SV × Ch × SV) (s : Tapi_Standing × Int) => st [(1, c.1), (4, .ref 4 0), (7, .ref 7 0), (8, c.2.2), (10, .d (.int .i64 s.2))] [(4, c.2.1), (7, .box (dR (rTapi_Standing s.1)))]) (c := (_, _, _)) (s0 := (_, _)) hm); (focus (first | (dsimp only; done))); (with_reducible refine Then.mk ?_ ?_)) | ((apply S_loopY (b := 0) (X := sc_reply_Again_B1) (x := sc_reply_Again_L1) rfl (fun (c : SV × SV × SV × SV) (s : (List ((List UInt8) × Int)) × (List ((List UInt8) × Int)) × (List ((List UInt8) × Bool)) × Int) => st [(1, c.1), (2, c.2.1), (9, .mp 29), (10, .mp 30), (11, .mp 31), (34, c.2.2.1), (35, c.2.2.2), (36, .d (.int .i64 s.2.2.2))] [(29, .map .str (encM .str (fun v => .d (.int .i64 v)) s.1)), (30, .map .str (encM .str (fun v => .d (.int .i64 v)) s.2.1)), (31, .map .str (encM .str (fun v => .d (.bool v)) s.2.2.1))]) (c := (_, _, _, _)) (s0 := (_, _, _, _)) hm); (focus (first | (dsimp only; done))); (with_reducible refine Then.mk ?_ ?_)) | (((apply S_rangeY (X := sc_reply_Again_B2) rfl (fun (c : SV × Ch × Ch × SV) (s : (List (List UInt8))) => st [(2, c.1), (10, .mp 30), (11, .mp 31), (14, .vec 14), (64, c.2.2.2)] [(30, c.2.1), (31, c.2.2.1), (14, .vec 9 1 (vrow rowS s))]) (s0 := _) (f := fun v => .int .i64 v) hm); (focus (simp only [push_cast, seval, -List.reduceReplicate]; rfl)); (focus (simp only [push_cast, seval, -List.reduceReplicate]; rfl)); (focus rfl); (focus (intro _; rfl)); (focus decide); intro p; apply rng_at (c := (_, _, _, _)); (focus (first | (dsimp only; done))); (with_reducible refine Then.mk ?_ ?_); apply Imp.trans; (focus (apply imp_vecnil (slot := 14) (id := 14) (e := 9) (sz := 1); (focus (simp only [push_cast, seval, -List.reduceReplicate]; done)))))) | ((apply S_loopY (b := 2) (X := sc_interchangeref7_Again_B1) (x := sc_interchangeref7_Again_L1) rfl (fun (c : SV × SV × SV × SV × SV) (s : Int × Bool × Bool × Int) => st [(1, c.1), (2, c.2.1), (9, c.2.2.1), (11, c.2.2.2.1), (12, c.2.2.2.2), (13, .d (.int .i64 s.1)), (14, .d (.bool s.2.1)), (15, .d (.bool s.2.2.1)), (16, .d (.int .i64 s.2.2.2))] []) (c := (_, _, _, _, _)) (s0 := (_, _, _, _)) hm); (focus (first | (dsimp only; done))); (with_reducible refine Then.mk ?_ ?_)) | ((apply S_loopY (b := 4) (X := sc_interchangeref7_Again_B2) (x := sc_interchangeref7_Again_L2) rfl (fun (c : SV × SV × SV × SV × SV) (s : Int) => st [(1, c.1), (2, c.2.1), (9, c.2.2.1), (11, c.2.2.2.1), (12, c.2.2.2.2), (17, .d (.int .i64 s))] []) (c := (_, _, _, _, _)) (s0 := _) hm); (focus (first | (dsimp only; done))); (with_reducible refine Then.mk ?_ ?_)) | ((apply S_loopY (b := 0) (X := sc_interchangeref7_Again_B3) (x := sc_interchangeref7_Again_L3) rfl (fun (c : SV × SV × SV) (s : (List (List UInt8)) × Int) => st [(1, c.1), (2, c.2.1), (9, c.2.2), (11, .d (.slice (List.map rowS s.1))), (12, .d (.int .i64 s.2))] []) (c := (_, _, _)) (s0 := (_, _)) hm); (focus (first | (dsimp only; done))); (with_reducible refine Then.mk ?_ ?_)) | ((apply K_next (s' := (_, _, _, _)) hm); (focus (first | (dsimp only; done)))) | ((apply K_brk (s' := (_, _, _, _)) hm); (focus (first | (dsimp only; done)))) | ((apply K_next (s' := (_, _)) hm); (focus (first | (dsimp only; done)))) | ((apply K_brk (s' := (_, _)) hm); (focus (first | (dsimp only; done)))) | ((apply K_next (s' := _) hm); (focus (first | (dsimp only; done)))) | ((apply K_brk (s' := _) hm); (focus (first | (dsimp only; done)))) | (((with_reducible apply O_pV hm (l' := fun y => y)); (focus (simp only [push_cast, seval, -List.reduceReplicate]; rfl)); (focus (simp only [push_cast, seval, -List.reduceReplicate]; rfl)); (focus (intro _; rfl)); (focus (intro _; apply fspec_slices_Sort_string_string)); intro y hm)) | (((with_reducible apply LoopB.of); (focus (first | (dsimp only; done))); (focus ((intro _; repeat' (first | with_reducible exact impC_end | with_reducible refine impC_seq ?_ | with_reducible refine impC_block ?_ | ((with_reducible refine impC_rnd ?_); intro _) | ((with_reducible refine impC_brk ?_); intro _))))); (intro s o hm; first | unfold sc_reply_StandingAt_L1 | unfold sc_interchangeref7_StandingAt_L1 | unfold sc_reply_Again_L1 | unfold sc_interchangeref7_Again_L1 | unfold sc_interchangeref7_Again_L2 | unfold sc_interchangeref7_Again_L3); rotate_left; intro s hm)) | (((with_reducible apply RangeB.of); (focus (first | (dsimp only; done))); (focus (intro _; exact ⟨rfl, rfl, rfl⟩)); (focus ((intro _; repeat' (first | with_reducible exact impC_end | with_reducible refine impC_seq ?_)))); (intro e s o hm; first | unfold sc_reply_Again_L2); rotate_left; intro s hm)) | (((apply imp_stT; (repeat' (first | with_reducible exact keepT_nil | with_reducible exact keepC_nil | with_reducible apply keepT_cons | with_reducible apply keepC_cons | ((with_reducible apply svle_eq); (focus (first | (simp only [push_cast, seval]; rfl) | rfl)); (focus ((repeat' (first | rfl)); done))) | ((with_reducible apply svle_td); (focus (first | (simp only [push_cast, seval]; rfl))); (focus (first | (simp only [push_cast, seval]; rfl))); (focus ((repeat' (first | (with_reducible first | apply dv_slice | apply fold_nil))); done))) | ((with_reducible apply chle_eq); (focus (first | (simp only [push_cast, seval]; rfl))); (first | with_reducible exact chle_rfl rfl | with_reducible exact chle_map0 | (apply chle_mapS; rfl) | with_reducible apply chle_vec | with_reducible apply chle_box)) | (with_reducible first | apply cT_Tapi_Standing | apply r_nil))); done)))))
noncomputable def m_reply_StateAt (x0 : List Tapi_BookEvent) (x1 : Int) (x2 : Int) : Option (Int × Int) := (sims_G1_4_0.1 x0 x1 x2).1
theorem spec_reply_StateAt (x0 : List Tapi_BookEvent) (x1 : Int) (x2 : Int) : ∀ r, m_reply_StateAt x0 x1 x2 = some r → PureSpec Tryd.prog 8 [.slice (List.map rTapi_BookEvent x0), .int .i64 x1, .int .i64 x2] (.tup [.int .i64 r.1, .int .i64 r.2]) := (sims_G1_4_0.1 x0 x1 x2).2
noncomputable def m_interchangeref7_StateAt (x0 : List Tapi_BookEvent) (x1 : Int) (x2 : Int) : Option (Int × Int) := (sims_G1_4_0.2.1 x0 x1 x2).1
theorem spec_interchangeref7_StateAt (x0 : List Tapi_BookEvent) (x1 : Int) (x2 : Int) : ∀ r, m_interchangeref7_StateAt x0 x1 x2 = some r → PureSpec Tryd.prog 9 [.slice (List.map rTapi_BookEvent x0), .int .i64 x1, .int .i64 x2] (.tup [.int .i64 r.1, .int .i64 r.2]) := (sims_G1_4_0.2.1 x0 x1 x2).2
noncomputable def m_reply_StandingAt (x0 : List Tapi_BookEvent) (x1 : Int) : Option (Tapi_Standing × Int) := (sims_G1_4_0.2.2.1 x0 x1).1
theorem spec_reply_StandingAt (x0 : List Tapi_BookEvent) (x1 : Int) : ∀ r, m_reply_StandingAt x0 x1 = some r → PureSpec Tryd.prog 10 [.slice (List.map rTapi_BookEvent x0), .int .i64 x1] (.tup [.agg (rTapi_Standing r.1), .int .i64 r.2]) := (sims_G1_4_0.2.2.1 x0 x1).2
noncomputable def m_interchangeref7_StandingAt (x0 : List Tapi_BookEvent) (x1 : Int) : Option (Tapi_Standing × Int) := (sims_G1_4_0.2.2.2.1 x0 x1).1
theorem spec_interchangeref7_StandingAt (x0 : List Tapi_BookEvent) (x1 : Int) : ∀ r, m_interchangeref7_StandingAt x0 x1 = some r → PureSpec Tryd.prog 11 [.slice (List.map rTapi_BookEvent x0), .int .i64 x1] (.tup [.agg (rTapi_Standing r.1), .int .i64 r.2]) := (sims_G1_4_0.2.2.2.1 x0 x1).2
noncomputable def m_reply_Again (x0 : List Tapi_BookEvent) (x1 : Int) (x2 : Int) : Option ((List (List UInt8)) × Int) := (sims_G1_4_0.2.2.2.2.1 x0 x1 x2).1
theorem spec_reply_Again (x0 : List Tapi_BookEvent) (x1 : Int) (x2 : Int) : ∀ r, m_reply_Again x0 x1 x2 = some r → PureSpec Tryd.prog 12 [.slice (List.map rTapi_BookEvent x0), .int .i64 x1, .int .i64 x2] (.tup [.slice (List.map rowS r.1), .int .i64 r.2]) := (sims_G1_4_0.2.2.2.2.1 x0 x1 x2).2
noncomputable def m_interchangeref7_Again (x0 : List Tapi_BookEvent) (x1 : Int) (x2 : Int) : Option ((List (List UInt8)) × Int) := (sims_G1_4_0.2.2.2.2.2 x0 x1 x2).1
theorem spec_interchangeref7_Again (x0 : List Tapi_BookEvent) (x1 : Int) (x2 : Int) : ∀ r, m_interchangeref7_Again x0 x1 x2 = some r → PureSpec Tryd.prog 13 [.slice (List.map rTapi_BookEvent x0), .int .i64 x1, .int .i64 x2] (.tup [.slice (List.map rowS r.1), .int .i64 r.2]) := (sims_G1_4_0.2.2.2.2.2 x0 x1 x2).2

/-- interchange/interchangelaw7.awake -/
def sc_interchangelaw7_awake : SC :=
  (.seq (.reg [.r 0 (.mv (.c (.d (.bool false))))])
  (.seq (.reg [.r 4 (.build [.d (.int .i64 0), .d (.int .i64 0), .d (.int .i64 0), .d (.str []), .d (.int .i64 0)] [(0, 1, .c (.d (.int .i64 1))), (3, 1, .c (.d (.str [65])))]),
     .r 5 (.bslice 5 [.t 4]),
     .c 6 (.f 10) [.t 5, .c (.d (.int .i64 0))],
     .r 3 (.mv (.t 6)),
     .r 7 (.ext (.t 3) 0),
     .r 8 (.ext (.t 3) 1),
     .w 1 (.boxM (.c (.agg [.d (.int .i64 0), .d (.int .i64 0), .d (.int .i64 0), .d (.int .i64 0), .d (.int .i64 0), .d (.int .i64 0)]))),
     .w 0 (.st 6 (.t 1) (.t 7)),
     .r 2 (.mv (.t 8))])
  (.seq (.reg (.r 9 (.mv (.t 2)) :: .r 10 (.bin .eql (.t 9) (.c (.d (.int .i64 0)))) :: .r 11 (.mv (.t 10)) :: gapp [12, 13, 14] 11 true (.r 12 (.fld 0 (.t 1)) :: .r 13 (.ld1 (.t 12)) :: .r 14 (.bin .eql (.t 13) (.c (.d (.int .i64 1)))) :: []) (.r 15 (.pick (.t 11) (.t 14) (.c (.d (.bool false)))) :: .r 0 (.mv (.t 15)) :: [])))
  .ret)))
theorem fit_interchangelaw7_awake : fits Tryd.prog 15 Tryd.f15 sc_interchangelaw7_awake [.t 0] 0 = true := by kernel_rfl

set_option maxRecDepth 100000 in
set_option maxHeartbeats 40000000 in
noncomputable def sims_G1_5_0 : ({m : Option (Bool) // ∀ r, m = some r → PureSpec Tryd.prog 15 [] (.bool r)}) := by
  (apply Subtype.mk; intro r hm; apply pure_walk Tryd.func15 fit_interchangelaw7_awake; unfold sc_interchangelaw7_awake)
  repeat' (first | with_reducible refine W_seq ?_ | with_reducible refine W_reg ?_ | with_reducible refine W_ret ?_ | with_reducible refine O_nil ?_ | with_reducible refine K_seq ?_ | ((with_reducible apply O_r); (simp only [push_cast, seval]; rfl); (first | exact trivial)) | ((with_reducible apply O_and hm); (simp only [push_cast, seval]; rfl); rfl; intro v hm; rotate_left; intro v g hm) | ((with_reducible apply O_cF hm); (simp only [push_cast, seval]; rfl); (first | apply spec_reply_StandingAt _ _); (any_goals ((repeat' (first | rfl | (with_reducible first | apply fT_Tapi_BookEvent | apply dv_slice | apply f_cons | apply fold_nil | apply fold_cons))); done)); intro x hm) | ((with_reducible apply O_w); (simp only [push_cast, seval]; rfl); (first | exact trivial)) | ((with_reducible apply K_endS hm); (focus (simp only [resOf, resL, RV.get, push_cast, seval]; rfl)); (focus ((repeat' (first | rfl)); done))) | ((with_reducible apply K_bool hm); (simp only [push_cast, seval]; rfl)))
noncomputable def m_interchangelaw7_awake : Option (Bool) := (sims_G1_5_0 ).1
theorem spec_interchangelaw7_awake : ∀ r, m_interchangelaw7_awake  = some r → PureSpec Tryd.prog 15 [] (.bool r) := (sims_G1_5_0 ).2

/-- interchange/interchangelaw7.ReplyStatesMatchSpec -/
def sc_interchangelaw7_ReplyStatesMatchSpec : SC :=
  (.seq (.reg [.r 8 (.mv (.c (.d (.bool false))))])
  (.seq (.reg [.r 20 (.mv (.t 0)),
     .r 21 (.mv (.t 1)),
     .r 22 (.mv (.t 2)),
     .c 23 (.f 8) [.t 20, .t 21, .t 22],
     .r 19 (.mv (.t 23)),
     .r 24 (.ext (.t 19) 0),
     .r 25 (.ext (.t 19) 1),
     .r 9 (.mv (.t 24)),
     .r 10 (.mv (.t 25))])
  (.seq (.reg [.r 27 (.mv (.t 0)),
     .r 28 (.mv (.t 1)),
     .r 29 (.mv (.t 2)),
     .c 30 (.f 9) [.t 27, .t 28, .t 29],
     .r 26 (.mv (.t 30)),
     .r 31 (.ext (.t 26) 0),
     .r 32 (.ext (.t 26) 1),
     .r 11 (.mv (.t 31)),
     .r 12 (.mv (.t 32))])
  (.seq (.seq (.reg (.r 33 (.mv (.t 9)) :: .r 34 (.mv (.t 11)) :: .r 35 (.bin .neq (.t 33) (.t 34)) :: .r 36 (.mv (.t 35)) :: gapp [37, 38, 39] 36 false (.r 37 (.mv (.t 10)) :: .r 38 (.mv (.t 12)) :: .r 39 (.bin .neq (.t 37) (.t 38)) :: []) (.r 40 (.pick (.t 36) (.c (.d (.bool true))) (.t 39)) :: [])))
  (.cond (.t 40)
    (.seq (.reg [.r 8 (.mv (.c (.d (.bool false))))])
    .ret)
    .skip))
  (.seq (.reg [.r 42 (.mv (.t 0)),
     .r 43 (.mv (.t 2)),
     .c 44 (.f 10) [.t 42, .t 43],
     .r 41 (.mv (.t 44)),
     .r 45 (.ext (.t 41) 0),
     .r 46 (.ext (.t 41) 1),
     .w 13 (.boxM (.c (.agg [.d (.int .i64 0), .d (.int .i64 0), .d (.int .i64 0), .d (.int .i64 0), .d (.int .i64 0), .d (.int .i64 0)]))),
     .w 0 (.st 6 (.t 13) (.t 45)),
     .r 10 (.mv (.t 46))])
  (.seq (.reg [.r 48 (.mv (.t 0)),
     .r 49 (.mv (.t 2)),
     .c 50 (.f 11) [.t 48, .t 49],
     .r 47 (.mv (.t 50)),
     .r 51 (.ext (.t 47) 0),
     .r 52 (.ext (.t 47) 1),
     .w 14 (.boxM (.c (.agg [.d (.int .i64 0), .d (.int .i64 0), .d (.int .i64 0), .d (.int .i64 0), .d (.int .i64 0), .d (.int .i64 0)]))),
     .w 0 (.st 6 (.t 14) (.t 51)),
     .r 12 (.mv (.t 52))])
  (.seq (.reg [.r 54 (.mv (.t 0)),
     .r 55 (.mv (.t 2)),
     .r 56 (.mv (.t 3)),
     .c 57 (.f 12) [.t 54, .t 55, .t 56],
     .r 53 (.mv (.t 57)),
     .r 58 (.ext (.t 53) 0),
     .r 59 (.ext (.t 53) 1),
     .r 15 (.mv (.t 58)),
     .r 16 (.mv (.t 59))])
  (.seq (.reg [.r 61 (.mv (.t 0)),
     .r 62 (.mv (.t 2)),
     .r 63 (.mv (.t 3)),
     .c 64 (.f 13) [.t 61, .t 62, .t 63],
     .r 60 (.mv (.t 64)),
     .r 65 (.ext (.t 60) 0),
     .r 66 (.ext (.t 60) 1),
     .r 17 (.mv (.t 65)),
     .r 18 (.mv (.t 66))])
  (.seq (.reg (.o 67 (.ldA 6 (.t 13)) :: .o 68 (.ldA 6 (.t 14)) :: .r 69 (.eqs .eql [(.int .i64), (.int .i64), (.int .i64), (.int .i64), (.int .i64), (.int .i64)] (.t 67) (.t 68)) :: .r 70 (.mv (.t 69)) :: gapp [71, 72, 73] 70 true (.r 71 (.mv (.t 10)) :: .r 72 (.mv (.t 12)) :: .r 73 (.bin .eql (.t 71) (.t 72)) :: []) (.r 74 (.pick (.t 70) (.t 73) (.c (.d (.bool false)))) :: .r 75 (.mv (.t 74)) :: gapp [76, 77, 78] 75 true (.r 76 (.mv (.t 15)) :: .r 77 (.mv (.t 17)) :: .c 78 (.f 14) [.t 76, .t 77] :: []) (.r 79 (.pick (.t 75) (.t 78) (.c (.d (.bool false)))) :: .r 80 (.mv (.t 79)) :: gapp [81, 82, 83] 80 true (.r 81 (.mv (.t 16)) :: .r 82 (.mv (.t 18)) :: .r 83 (.bin .eql (.t 81) (.t 82)) :: []) (.r 84 (.pick (.t 80) (.t 83) (.c (.d (.bool false)))) :: .r 85 (.mv (.t 84)) :: gapp [86] 85 true (.c 86 (.f 15) [] :: []) (.r 87 (.pick (.t 85) (.t 86) (.c (.d (.bool false)))) :: .r 8 (.mv (.t 87)) :: []))))))
  .ret)))))))))
theorem fit_interchangelaw7_ReplyStatesMatchSpec : fits Tryd.prog 3 Tryd.f3 sc_interchangelaw7_ReplyStatesMatchSpec [.t 8] 4 = true := by kernel_rfl

def sc_interchangelaw7_ReplyLaterChangesNothing_L1 : SC :=
  (.seq (.seq (.reg (.r 48 (.mv (.t 11)) :: .r 49 (.mv (.t 0)) :: .r 50 (.len (.t 49)) :: .r 51 (.bin .lss (.t 48) (.t 50)) :: .r 52 (.mv (.t 51)) :: gapp [53, 54, 55, 56, 57, 58, 59] 52 true (.r 53 (.mv (.t 0)) :: .r 54 (.mv (.t 11)) :: .r 55 (.idx 5 (.t 53) (.t 54)) :: .r 56 (.fld 1 (.t 55)) :: .r 57 (.ld1 (.t 56)) :: .r 58 (.mv (.t 1)) :: .r 59 (.bin .leq (.t 57) (.t 58)) :: []) (.r 60 (.pick (.t 52) (.t 59) (.c (.d (.bool false)))) :: [])))
  (.cond (.t 60)
    .skip
    (.exit 0)))
  (.block 1 (.reg [.r 61 (.mv (.t 11)),
       .r 62 (.bin .add (.t 61) (.c (.d (.int .i64 1)))),
       .r 11 (.mv (.t 62))])))
def sc_interchangelaw7_ReplyLaterChangesNothing_B1 : SC := .block 0 (.loop sc_interchangelaw7_ReplyLaterChangesNothing_L1)
/-- interchange/interchangelaw7.ReplyLaterChangesNothing -/
def sc_interchangelaw7_ReplyLaterChangesNothing : SC :=
  (.seq (.reg [.r 6 (.mv (.c (.d (.bool false))))])
  (.seq (.reg [.r 15 (.mv (.t 0)),
     .r 16 (.mv (.t 1)),
     .c 17 (.f 10) [.t 15, .t 16],
     .r 14 (.mv (.t 17)),
     .r 18 (.ext (.t 14) 0),
     .r 19 (.ext (.t 14) 1),
     .w 7 (.boxM (.c (.agg [.d (.int .i64 0), .d (.int .i64 0), .d (.int .i64 0), .d (.int .i64 0), .d (.int .i64 0), .d (.int .i64 0)]))),
     .w 0 (.st 6 (.t 7) (.t 18)),
     .r 8 (.mv (.t 19))])
  (.seq (.reg [.r 21 (.mv (.t 0)),
     .r 22 (.mv (.t 1)),
     .r 23 (.mv (.t 2)),
     .c 24 (.f 12) [.t 21, .t 22, .t 23],
     .r 20 (.mv (.t 24)),
     .r 25 (.ext (.t 20) 0),
     .r 26 (.ext (.t 20) 1),
     .r 9 (.mv (.t 25)),
     .r 10 (.mv (.t 26))])
  (.seq (.seq (.reg (.r 27 (.mv (.t 8)) :: .r 28 (.bin .neq (.t 27) (.c (.d (.int .i64 0)))) :: .r 29 (.mv (.t 28)) :: gapp [30, 31] 29 false (.r 30 (.mv (.t 10)) :: .r 31 (.bin .neq (.t 30) (.c (.d (.int .i64 0)))) :: []) (.r 32 (.pick (.t 29) (.c (.d (.bool true))) (.t 31)) :: [])))
  (.cond (.t 32)
    (.seq (.reg (.r 33 (.mv (.t 8)) :: .r 34 (.bin .eql (.t 33) (.c (.d (.int .i64 0)))) :: .r 35 (.mv (.t 34)) :: gapp [36, 37, 38] 35 false (.r 36 (.ldA 6 (.t 7)) :: .r 37 (.build [.d (.int .i64 0), .d (.int .i64 0), .d (.int .i64 0), .d (.int .i64 0), .d (.int .i64 0), .d (.int .i64 0)] []) :: .r 38 (.eqs .eql [(.int .i64), (.int .i64), (.int .i64), (.int .i64), (.int .i64), (.int .i64)] (.t 36) (.t 37)) :: []) (.r 39 (.pick (.t 35) (.c (.d (.bool true))) (.t 38)) :: .r 40 (.mv (.t 39)) :: gapp [41, 42, 43] 40 true (.r 41 (.mv (.t 9)) :: .r 42 (.len (.t 41)) :: .r 43 (.bin .eql (.t 42) (.c (.d (.int .i64 0)))) :: []) (.r 44 (.pick (.t 40) (.t 43) (.c (.d (.bool false)))) :: .r 45 (.mv (.t 44)) :: gapp [46] 45 true (.c 46 (.f 15) [] :: []) (.r 47 (.pick (.t 45) (.t 46) (.c (.d (.bool false)))) :: .r 6 (.mv (.t 47)) :: [])))))
    .ret)
    .skip))
  (.seq (.reg [.r 11 (.mv (.c (.d (.int .i64 0))))])
  (.seq sc_interchangelaw7_ReplyLaterChangesNothing_B1
  (.seq (.reg [.r 64 (.mv (.t 0)),
     .r 65 (.mv (.t 11)),
     .r 66 (.mv (.t 11)),
     .r 67 (.slc3 5 (.t 64) none (.t 65) (.t 66)),
     .r 68 (.mv (.t 1)),
     .c 69 (.f 10) [.t 67, .t 68],
     .r 63 (.mv (.t 69)),
     .r 70 (.ext (.t 63) 0),
     .r 71 (.ext (.t 63) 1),
     .w 12 (.boxM (.c (.agg [.d (.int .i64 0), .d (.int .i64 0), .d (.int .i64 0), .d (.int .i64 0), .d (.int .i64 0), .d (.int .i64 0)]))),
     .w 0 (.st 6 (.t 12) (.t 70)),
     .r 8 (.mv (.t 71))])
  (.seq (.reg [.r 73 (.mv (.t 0)),
     .r 74 (.mv (.t 11)),
     .r 75 (.mv (.t 11)),
     .r 76 (.slc3 5 (.t 73) none (.t 74) (.t 75)),
     .r 77 (.mv (.t 1)),
     .r 78 (.mv (.t 2)),
     .c 79 (.f 12) [.t 76, .t 77, .t 78],
     .r 72 (.mv (.t 79)),
     .r 80 (.ext (.t 72) 0),
     .r 81 (.ext (.t 72) 1),
     .r 13 (.mv (.t 80)),
     .r 10 (.mv (.t 81))])
  (.seq (.reg (.r 82 (.mv (.t 8)) :: .r 83 (.bin .eql (.t 82) (.c (.d (.int .i64 0)))) :: .r 84 (.mv (.t 83)) :: gapp [85, 86] 84 true (.r 85 (.mv (.t 10)) :: .r 86 (.bin .eql (.t 85) (.c (.d (.int .i64 0)))) :: []) (.r 87 (.pick (.t 84) (.t 86) (.c (.d (.bool false)))) :: .r 88 (.mv (.t 87)) :: gapp [89, 90, 91] 88 true (.r 89 (.ldA 6 (.t 7)) :: .r 90 (.ldA 6 (.t 12)) :: .r 91 (.eqs .eql [(.int .i64), (.int .i64), (.int .i64), (.int .i64), (.int .i64), (.int .i64)] (.t 89) (.t 90)) :: []) (.r 92 (.pick (.t 88) (.t 91) (.c (.d (.bool false)))) :: .r 93 (.mv (.t 92)) :: gapp [94, 95, 96] 93 true (.r 94 (.mv (.t 9)) :: .r 95 (.mv (.t 13)) :: .c 96 (.f 14) [.t 94, .t 95] :: []) (.r 97 (.pick (.t 93) (.t 96) (.c (.d (.bool false)))) :: .r 98 (.mv (.t 97)) :: gapp [99] 98 true (.c 99 (.f 15) [] :: []) (.r 100 (.pick (.t 98) (.t 99) (.c (.d (.bool false)))) :: .r 6 (.mv (.t 100)) :: []))))))
  .ret)))))))))
theorem fit_interchangelaw7_ReplyLaterChangesNothing : fits Tryd.prog 4 Tryd.f4 sc_interchangelaw7_ReplyLaterChangesNothing [.t 6] 3 = true := by kernel_rfl

set_option maxRecDepth 100000 in
set_option maxHeartbeats 40000000 in
noncomputable def sims_G1_6_0 : (∀ (x0 : List Tapi_BookEvent) (x1 : Int) (x2 : Int) (x3 : Int), {m : Option (Bool) // ∀ r, m = some r → PureSpec Tryd.prog 3 [.slice (List.map rTapi_BookEvent x0), .int .i64 x1, .int .i64 x2, .int .i64 x3] (.bool r)}) × (∀ (x0 : List Tapi_BookEvent) (x1 : Int) (x2 : Int), {m : Option (Bool) // ∀ r, m = some r → PureSpec Tryd.prog 4 [.slice (List.map rTapi_BookEvent x0), .int .i64 x1, .int .i64 x2] (.bool r)}) := by
  refine ⟨?g0, ?g1⟩
  case' g0 => (intro x0 x1 x2 x3; apply Subtype.mk; intro r hm; apply pure_walk Tryd.func3 fit_interchangelaw7_ReplyStatesMatchSpec; unfold sc_interchangelaw7_ReplyStatesMatchSpec)
  case' g1 => (intro x0 x1 x2; apply Subtype.mk; intro r hm; apply pure_walk Tryd.func4 fit_interchangelaw7_ReplyLaterChangesNothing; unfold sc_interchangelaw7_ReplyLaterChangesNothing)
  all_goals (repeat' (first | with_reducible refine W_seq ?_ | with_reducible refine W_reg ?_ | with_reducible refine W_block ?_ | with_reducible refine W_skip ?_ | with_reducible refine W_ret ?_ | with_reducible refine W_exit ?_ | with_reducible refine O_nil ?_ | with_reducible refine K_seq ?_ | with_reducible refine K_seqE ?_ | with_reducible refine K_seqR ?_ | with_reducible refine K_block ?_ | with_reducible refine O_o2r ?_ | ((with_reducible apply O_idxr hm); (iterate 2 (simp only [push_cast, seval]; rfl)); (intro _; rfl); intro e hm) | ((with_reducible apply O_slc3r hm); (iterate 3 (simp only [push_cast, seval]; rfl)); (intro _; rfl); (simp only [push_cast, seval]; rfl); intro e hm) | ((with_reducible apply O_r); (simp only [push_cast, seval]; rfl); (first | exact trivial)) | ((with_reducible apply O_and hm); (simp only [push_cast, seval]; rfl); rfl; intro v hm; rotate_left; intro v g hm) | ((with_reducible apply O_or hm); (simp only [push_cast, seval]; rfl); rfl; intro v hm; rotate_left; intro v g hm) | ((with_reducible apply O_cF hm); (simp only [push_cast, seval]; rfl); (first | apply spec_reply_StateAt _ _ _ | apply spec_interchangeref7_StateAt _ _ _ | apply spec_reply_StandingAt _ _ | apply spec_interchangeref7_StandingAt _ _ | apply spec_reply_Again _ _ _ | apply spec_interchangeref7_Again _ _ _ | apply spec_slices_Equal_string_string _ _ | apply spec_interchangelaw7_awake); (any_goals ((repeat' (first | rfl)); done)); intro x hm) | ((with_reducible apply O_w); (simp only [push_cast, seval]; rfl); (first | exact trivial)) | ((with_reducible apply S_condB hm); (simp only [push_cast, seval]; rfl); intro hm; rotate_left; intro hm) | ((with_reducible apply K_endS hm); (focus (simp only [resOf, resL, RV.get, push_cast, seval]; rfl)); (focus ((repeat' (first | rfl)); done))) | ((with_reducible apply K_bool hm); (simp only [push_cast, seval]; rfl)) | ((with_reducible apply K_leave hm); intro r hm) | ((apply S_loopY (b := 0) (X := sc_interchangelaw7_ReplyLaterChangesNothing_B1) (x := sc_interchangelaw7_ReplyLaterChangesNothing_L1) rfl (fun (c : SV × SV × SV × Ch × SV) (s : Int) => st [(0, c.1), (1, c.2.1), (2, c.2.2.1), (7, .ref 7 0), (9, c.2.2.2.2), (11, .d (.int .i64 s))] [(7, c.2.2.2.1)]) (c := (_, _, _, _, _)) (s0 := _) hm); (focus (first | (dsimp only; done))); (with_reducible refine Then.mk ?_ ?_)) | ((apply K_next (s' := _) hm); (focus (first | (dsimp only; done)))) | ((apply K_brk (s' := _) hm); (focus (first | (dsimp only; done)))) | (((with_reducible apply LoopB.of); (focus (first | (dsimp only; done))); (focus ((intro _; repeat' (first | with_reducible exact impC_end | with_reducible refine impC_seq ?_)))); (intro s o hm; first | unfold sc_interchangelaw7_ReplyLaterChangesNothing_L1); rotate_left; intro s hm)) | (((apply imp_stT; (repeat' (first | with_reducible exact keepT_nil | with_reducible exact keepC_nil | with_reducible apply keepT_cons | with_reducible apply keepC_cons | ((with_reducible apply svle_eq); (focus (first | (simp only [push_cast, seval]; rfl))); (focus ((repeat' (first | rfl)); done))) | ((with_reducible apply chle_eq); (focus (first | (simp only [push_cast, seval]; rfl))); (first | with_reducible exact chle_rfl rfl)))); done)))))
noncomputable def m_interchangelaw7_ReplyLaterChangesNothing (x0 : List Tapi_BookEvent) (x1 : Int) (x2 : Int) : Option (Bool) := (sims_G1_6_0.2 x0 x1 x2).1
theorem spec_interchangelaw7_ReplyLaterChangesNothing (x0 : List Tapi_BookEvent) (x1 : Int) (x2 : Int) : ∀ r, m_interchangelaw7_ReplyLaterChangesNothing x0 x1 x2 = some r → PureSpec Tryd.prog 4 [.slice (List.map rTapi_BookEvent x0), .int .i64 x1, .int .i64 x2] (.bool r) := (sims_G1_6_0.2 x0 x1 x2).2

end Go.Proofs.YtlmmfddbpagiaaaDoor

/-
  How the parameters of the laws of this seat read, and a world in which the listed tables lie (printed by wip/tool/row.py).
-/
namespace Go.Proofs.YtlmmfddbpagiaaaDoor
open Go.ChangeShapes Go.WideShapes Go.ChangeAt Go.RowKit
set_option linter.unusedSimpArgs false
set_option linter.unusedVariables false
theorem and_t {a b : Bool} (h1 : a = true) (h2 : b = true) : (a && b) = true := by rw [h1, h2]; rfl
/-- How a value of a type reads. -/
def Wt (P : Program) (n : Nat) (t : TypeId) {α : Type} (row : α → List DV) (ok : α → Prop) : Prop := ∀ m ds, WT P (m + n) t ds → ∃ x, ds = row x ∧ ok x
theorem Wt.up {P : Program} {n : Nat} {t : TypeId} {α : Type} {row : α → List DV} {ok : α → Prop} (h : Wt P n t row ok) (k : Nat) : Wt P (n + k) t row ok := fun m ds hd => h (m + k) ds (by rwa [show m + k + n = m + (n + k) by omega])
def okI (n : Int) : Prop := -9223372036854775808 ≤ n ∧ n ≤ 9223372036854775807
def okS (s : List UInt8) : Prop := s.length ≤ 9223372036854775807
def okL {α : Type} (ok : α → Prop) (l : List α) : Prop := l.length ≤ 9223372036854775807 ∧ ∀ a ∈ l, ok a
theorem WT_struct {P : Program} {n : Nat} {t : TypeId} {fs : Array Field} {ds : List DV} (hu : P.underlying t = some (.struct fs)) (h : WT P (n + 1) t ds) : WTS (WT P n) fs.toList ds := by
  simp only [WT, hu] at h; exact h
theorem wt_int {P : Program} {t : TypeId} (hu : P.underlying t = some (.int .i64)) : Wt P 1 t rowI okI := by
  intro m ds h
  simp only [WT, hu] at h
  obtain ⟨k, rfl, hw⟩ := h
  refine ⟨k, rfl, ?_⟩
  simp [Lit.wf] at hw
  have e : IntKind.i64.min = -9223372036854775808 := by decide
  unfold okI; omega
theorem wt_str {P : Program} {t : TypeId} (hu : P.underlying t = some .string) : Wt P 1 t rowS okS := by
  intro m ds h
  simp only [WT, hu] at h
  obtain ⟨b, rfl, hl⟩ := h
  exact ⟨b, rfl, by unfold okS; unfold maxLen at hl; omega⟩
theorem wt_slice {P : Program} {n : Nat} {t e : TypeId} {α : Type} {row : α → List DV} {ok : α → Prop} (hu : P.underlying t = some (.slice e)) (he : Wt P n e row ok) : Wt P (n + 1) t (rowL row) (okL ok) := by
  intro m ds h
  rw [show m + (n + 1) = (m + n) + 1 by omega] at h
  simp only [WT, hu] at h
  obtain ⟨rows, rfl, hl, hr⟩ := h
  have : ∀ rows : List (List DV), (∀ r ∈ rows, WT P (m + n) e r) → ∃ l : List α, rows = l.map row ∧ ∀ a ∈ l, ok a := by
    intro rows
    induction rows with
    | nil => intro _; exact ⟨[], rfl, by simp⟩
    | cons r rows ih =>
      intro h
      obtain ⟨a, rfl, ha⟩ := he m r (h r (by simp))
      obtain ⟨l, rfl, hl⟩ := ih (fun r hr => h r (by simp [hr]))
      exact ⟨a :: l, rfl, by simpa using ⟨ha, hl⟩⟩
  obtain ⟨l, rfl, hok⟩ := this rows hr
  exact ⟨l, rfl, by unfold maxLen at hl; simp at hl; omega, hok⟩
theorem ownK : ownKnob Tryd.prog.godebug = none := by kernel_rfl
theorem laidOut : laidOutB Tryd.prog = true := by kernel_rfl
theorem wt3 : Wt Tryd.prog 1 3 rowI okI := wt_int Tryd.underlying3
theorem wt9 : Wt Tryd.prog 1 9 rowS okS := wt_str Tryd.underlying9
def okTapi_BookEvent (x : Tapi_BookEvent) : Prop := okI x.fKind ∧ okI x.fTime ∧ okI x.fDue ∧ okS x.fRef ∧ okI x.fVerdict
set_option maxRecDepth 100000 in
theorem wt37 : Wt Tryd.prog 2 37 rTapi_BookEvent okTapi_BookEvent := by
  intro m ds h
  have h := WT_struct Tryd.underlying37 h
  simp only [WTS] at h
  obtain ⟨a0, _, rfl, h0, a1, _, rfl, h1, a2, _, rfl, h2, a3, _, rfl, h3, a4, _, rfl, h4, rfl⟩ := h
  obtain ⟨x0, rfl, o0⟩ := (wt3.up 0) m _ h0
  obtain ⟨x1, rfl, o1⟩ := (wt3.up 0) m _ h1
  obtain ⟨x2, rfl, o2⟩ := (wt3.up 0) m _ h2
  obtain ⟨x3, rfl, o3⟩ := (wt9.up 0) m _ h3
  obtain ⟨x4, rfl, o4⟩ := (wt3.up 0) m _ h4
  refine ⟨⟨x0, x1, x2, x3, x4⟩, ?_, o0, o1, o2, o3, o4⟩
  simp only [rTapi_BookEvent, rowI, rowY, rowS, rowB, rowL, List.append_assoc, List.cons_append, List.nil_append, List.append_nil]
theorem wt22 : Wt Tryd.prog 3 22 (rowL rTapi_BookEvent) (okL okTapi_BookEvent) := wt_slice Tryd.underlying22 wt37
def layVals : Nat → DataW Unit → List Value
  | 0, _ => []
  | _ + 1, .lit (.int k n) => [.int k n]
  | n + 1, .agg ps => ps.flatMap (layVals n)
  | _ + 1, _ => []
/-- The settled world, with the listed tables in it. -/
def layCells (l : List Value) : Obj → Obj
  | .cells _ t frozen => .cells l.toArray t frozen
  | o => o
noncomputable def laidWorld (os : Os) : World :=
  { World.holding Tryd.prog os ⟨#[], #[], []⟩ with
    heap := (((World.holding Tryd.prog os ⟨#[], #[], []⟩).heap.modify 3 (layCells (layVals 5 Rows.laid_unicode_utf8_acceptRanges))).modify 2 (layCells (layVals 5 Rows.laid_unicode_utf8_first))) }
end Go.Proofs.YtlmmfddbpagiaaaDoor

/-
  Plain laws: small computations, and loops whose rounds are known.
-/
namespace Go.Proofs.YtlmmfddbpagiaaaDoor
set_option linter.unusedSimpArgs false
set_option linter.unusedVariables false
open Go.RowKit

/-! ### Small computations that cannot fail -/
theorem andO_some (a b : Bool) : andO a (some b) = some (a && b) := by cases a <;> rfl
theorem orO_some (a b : Bool) : orO a (some b) = some (a || b) := by cases a <;> rfl
theorem getI_nat {α : Type} (l : List α) (i : Nat) : getI l (i : Int) = l[i]? := by simp [getI]
theorem thenO_some {R : Type} {c : Option Unit} {m : Option R} (h : c = some ()) : thenO c m = m := by rw [h]; rfl
theorem lenO_ok {n : Nat} (h : n ≤ 137438953472) : lenO n = some () := by simp [lenO, h]
theorem wrapN (i : Nat) (h : i < 9223372036854775807) : IntKind.i64.wrap ((i : Int) + 1) = ((i + 1 : Nat) : Int) := by rw [wrap64 _ (by omega) (by omega)]; simp


/-! ### Loops whose rounds are known -/
theorem loop_trace {S A : Type} {f : S → Option (S ⊕ A)} {a : A} (st : Nat → S) (n : Nat) (hs : ∀ i, i < n → f (st i) = some (.inl (st (i + 1)))) (he : f (st n) = some (.inr a)) : loopC f (st 0) = some a := by
  have : ∀ k, k ≤ n → loopC f (st (n - k)) = some a := by
    intro k
    induction k with
    | zero => intro _; rw [loopC_eq, Nat.sub_zero, he]
    | succ k ih =>
      intro hk
      rw [loopC_eq, hs (n - (k + 1)) (by omega), show n - (k + 1) + 1 = n - k by omega]
      exact ih (by omega)
  have := this n (Nat.le_refl n)
  rwa [Nat.sub_self] at this
theorem bind_loop {S A R : Type} {f : S → Option (S ⊕ A)} {s0 : S} {k : A → Option R} {a : A} {r : Option R} (h : loopC f s0 = some a) (hk : k a = r) : (loopC f s0).bind k = r := by rw [h]; exact hk
theorem take_snoc {α : Type} {l : List α} {i : Nat} {e : α} (h : l[i]? = some e) : l.take (i + 1) = l.take i ++ [e] := by rw [List.take_add_one, h]; rfl
theorem foldl_snoc {α β : Type} {g : β → α → β} {b : β} {l : List α} {i : Nat} {e : α} (h : l[i]? = some e) : (l.take (i + 1)).foldl g b = g ((l.take i).foldl g b) e := by
  rw [take_snoc h, List.foldl_append]; rfl
theorem get_lt {α : Type} {l : List α} {i : Nat} (h : i < l.length) : ∃ e, l[i]? = some e := ⟨_, List.getElem?_eq_getElem h⟩
theorem lt_dec {i n : Nat} (h : i < n) : decide ((i : Int) < (n : Int)) = true := by simpa using h
theorem lt_dec_self (n : Nat) : decide ((n : Int) < (n : Int)) = false := by simp
end Go.Proofs.YtlmmfddbpagiaaaDoor

/-
  Plain laws: numbers, references, and the checks of a book.
-/
namespace Go.Proofs.YtlmmfddbpagiaaaDoor
set_option linter.unusedSimpArgs false
set_option linter.unusedVariables false
open Go.RowKit

def outside (n lo hi : Int) : Bool := decide (n < lo) || decide (hi < n)
theorem outside_eq (n lo hi : Int) : m_kit_Outside n lo hi = some (outside n lo hi) := by
  unfold m_kit_Outside sims_G1_0_0; dsimp only
  simp only [orO_some, Option.bind_some, outside]
def isMoment (n : Int) : Bool := !outside n 0 1000000000000000
theorem isMoment_eq (n : Int) : m_kit_IsMoment n = some (isMoment n) := by
  unfold m_kit_IsMoment sims_G1_1_0; dsimp only
  simp only [outside_eq, Option.bind_some, isMoment]
def isVerdict (n : Int) : Bool := !outside n 1 3
theorem isVerdict_eq (n : Int) : m_reply_isVerdict n = some (isVerdict n) := by
  unfold m_reply_isVerdict sims_G1_1_0; dsimp only
  simp only [outside_eq, Option.bind_some, isVerdict]
/-! ### References -/
def refSet : List UInt8 := [65, 66, 67, 68, 69, 70, 71, 72, 73, 74, 75, 76, 77, 78, 79, 80, 81, 82, 83, 84, 85, 86, 87, 88, 89, 90, 48, 49, 50, 51, 52, 53, 54, 55, 56, 57, 45]
theorem dropWhile_nil {p : UInt8 → Bool} : ∀ {l : List UInt8}, l.dropWhile p = [] ↔ ∀ x ∈ l, p x = true
  | [] => by simp
  | a :: l => by
    rw [List.dropWhile_cons]
    by_cases h : p a = true
    · simp [h, dropWhile_nil (l := l)]
    · simp [h]
theorem dropWhile_head {p : UInt8 → Bool} {a : UInt8} {r : List UInt8} : ∀ {l : List UInt8}, l.dropWhile p = a :: r → p a = false
  | [], h => by simp at h
  | b :: l, h => by
    rw [List.dropWhile_cons] at h
    by_cases hp : p b = true
    · simp only [hp, if_true] at h; exact dropWhile_head h
    · simp only [hp] at h
      simp at h; rw [← h.1]; simpa using hp
theorem trim_nil (l cs : List UInt8) : Lib.trimS l cs = [] ↔ ∀ x ∈ l, cs.contains x = true := by
  unfold Lib.trimS Lib.trimLeftS Lib.trimRightS
  constructor
  · intro h
    have h1 : List.dropWhile (fun x => cs.contains x) l.reverse = [] := by
      cases hr : List.dropWhile (fun x => cs.contains x) l.reverse with
      | nil => rfl
      | cons a r =>
        exfalso
        have h2 := dropWhile_head hr
        rw [hr, dropWhile_nil] at h
        have h3 := h a (by simp)
        rw [h2] at h3; cases h3
    rw [dropWhile_nil] at h1
    intro x hx
    exact h1 x (by simpa using hx)
  · intro h
    have h1 : List.dropWhile (fun x => cs.contains x) l.reverse = [] := dropWhile_nil.2 fun x hx => h x (by simpa using hx)
    rw [h1]; rfl
def refByte (b : UInt8) : Bool := refSet.contains b
def isRef (s : List UInt8) : Bool := decide (1 ≤ s.length ∧ s.length ≤ 14) && s.all refByte
theorem trim_all (s : List UInt8) : decide (Lib.trimS s refSet = []) = s.all refByte := by
  rw [Bool.eq_iff_iff, decide_eq_true_eq, trim_nil, List.all_eq_true]; rfl
theorem trim_eq (s : List UInt8) (hs : s.length ≤ 9223372036854775807) : m_strings_Trim s refSet = some (Lib.trimS s refSet) := by
  unfold m_strings_Trim
  rw [if_pos ⟨hs, by decide, by decide⟩]
theorem isRef_eq (s : List UInt8) (hs : s.length ≤ 9223372036854775807) : m_kit_IsRef s = some (isRef s) := by
  have ht := trim_eq s hs
  have ha := trim_all s
  unfold refSet at ht ha
  unfold m_kit_IsRef sims_G1_1_0; dsimp only
  simp only [ht, Option.bind_some, ha, andO_some]
  congr 1; unfold isRef
  rw [Bool.eq_iff_iff]; simp; omega
end Go.Proofs.YtlmmfddbpagiaaaDoor

/-
  Plain laws: the checks of a book.
-/
namespace Go.Proofs.YtlmmfddbpagiaaaDoor
set_option linter.unusedSimpArgs false
set_option linter.unusedVariables false
open Go.RowKit

abbrev Ev := Tapi_BookEvent
abbrev Sd := Tapi_Sending
def Short (l : List Ev) : Prop := l.length ≤ 9223372036854775807 ∧ ∀ e ∈ l, e.fRef.length ≤ 9223372036854775807

def evFault (e : Ev) : Int :=
  if outside e.fKind 1 2 then 4 else if !isMoment e.fTime then 1 else if !isRef e.fRef then 3 else
  if e.fKind = 1 then (if e.fVerdict ≠ 0 then 3 else if outside e.fDue e.fTime (e.fTime + 10000000) then 1 else 0)
  else (if e.fDue ≠ 0 then 3 else if !isVerdict e.fVerdict then 4 else 0)
/-- Is event i earlier than the one before it? -/
def early (l : List Ev) (i : Nat) : Bool := match l[i]?, l[i - 1]? with
  | some e, some p => decide (0 < i) && decide (e.fTime < p.fTime)
  | _, _ => false
def faultAt (l : List Ev) (i : Nat) : Int := match l[i]? with
  | some e => if evFault e ≠ 0 then evFault e else if early l i then 8 else 0
  | none => 0
def firstF (f : Nat → Int) : Nat → Nat → Int
  | _, 0 => 0
  | i, n + 1 => if f i ≠ 0 then f i else firstF f (i + 1) n
theorem firstF_skip {f : Nat → Int} : ∀ (i n k : Nat), k ≤ n → (∀ j, i ≤ j → j < i + k → f j = 0) → firstF f i n = firstF f (i + k) (n - k)
  | i, n, 0, _, _ => by simp
  | i, 0, k + 1, h, _ => by omega
  | i, n + 1, k + 1, h, hz => by
    have h1 := hz i (by omega) (by omega)
    simp only [firstF, h1, ne_eq, not_true_eq_false, if_false]
    rw [firstF_skip (i + 1) n k (by omega) (fun j hj hj' => hz j (by omega) (by omega))]
    congr 1 <;> omega
def bookFault (l : List Ev) : Int := if 3000 < l.length then 2 else firstF (faultAt l) 0 l.length
theorem bookFault_none {l : List Ev} (hl : ¬ 3000 < l.length) (hb : ∀ j, j < l.length → faultAt l j = 0) : bookFault l = 0 := by
  simp only [bookFault, hl, if_false]
  rw [firstF_skip 0 l.length l.length (by omega) (fun j _ hj => hb j (by omega))]
  simp [firstF]
theorem bookFault_zero {l : List Ev} (h : bookFault l = 0) : l.length ≤ 3000 ∧ ∀ j, j < l.length → faultAt l j = 0 := by
  unfold bookFault at h
  split at h
  · omega
  · rename_i hl
    refine ⟨by omega, ?_⟩
    have : ∀ n i, firstF (faultAt l) i n = 0 → ∀ j, i ≤ j → j < i + n → faultAt l j = 0 := by
      intro n
      induction n with
      | zero => intro i _ j h1 h2; omega
      | succ n ih =>
        intro i hf j h1 h2
        simp only [firstF] at hf
        split at hf
        · rename_i hne; exact absurd hf hne
        · rename_i hz
          by_cases hji : j = i
          · subst hji; simpa using hz
          · exact ih (i + 1) hf j (by omega) (by omega)
    intro j hj
    exact this _ 0 h j (by omega) (by omega)

theorem time_wrap {e : Ev} (h : isMoment e.fTime = true) : IntKind.i64.wrap (e.fTime + 10000000) = e.fTime + 10000000 := by
  simp [isMoment, outside] at h
  exact wrap64 _ (by omega) (by omega)
theorem eventFault_eq (l : List Ev) (hl : Short l) (i : Nat) (hi : i < l.length) : m_reply_eventFault l (i : Int) = some (faultAt l i) := by
  obtain ⟨e, he⟩ : ∃ e, l[i]? = some e := ⟨_, List.getElem?_eq_getElem hi⟩
  have hs := hl.2 e (List.mem_of_getElem? he)
  obtain ⟨p, hp⟩ : ∃ p, l[i - 1]? = some p := ⟨_, List.getElem?_eq_getElem (by omega)⟩
  have hf : faultAt l i = if evFault e ≠ 0 then evFault e else if decide (0 < i) && decide (e.fTime < p.fTime) then 8 else 0 := by simp only [faultAt, early, he, hp]
  have hl1 := hl.1
  rw [hf]
  unfold m_reply_eventFault sims_G1_2_0; dsimp only
  have hg : (andO (decide (0 < (i : Int))) ((getI l (IntKind.i64.wrap ((i : Int) - 1))).bind fun e_1 => some (decide (e.fTime < e_1.fTime)))) = some (decide (0 < i) && decide (e.fTime < p.fTime)) := by
    by_cases h0 : 0 < i
    · have : IntKind.i64.wrap ((i : Int) - 1) = ((i - 1 : Nat) : Int) := by rw [wrap64 _ (by omega) (by omega)]; omega
      rw [this, getI_nat, hp, Option.bind_some, andO_some]; simp
    · simp [andO, h0]
  simp only [getI_nat, he, Option.bind_some, outside_eq, isMoment_eq, isRef_eq _ (by omega : e.fRef.length ≤ 9223372036854775807), isVerdict_eq, andO_some, hg]
  clear hg hf
  generalize (decide (0 < i) && decide (e.fTime < p.fTime)) = b
  unfold evFault
  cases hk : outside e.fKind 1 2 with
  | true => simp
  | false =>
  cases hm : isMoment e.fTime with
  | false => simp
  | true =>
  rw [time_wrap hm]
  cases hr : isRef e.fRef with
  | false => simp
  | true =>
  have hkk : e.fKind = 1 ∨ e.fKind = 2 := by simp [outside] at hk; omega
  rcases hkk with hkk | hkk
  · cases ho : outside e.fDue e.fTime (e.fTime + 10000000) <;> by_cases hv : e.fVerdict = 0 <;> cases b <;> simp [hkk, hv]
  · cases ho : isVerdict e.fVerdict <;> by_cases hv : e.fDue = 0 <;> cases b <;> simp [hkk, hv]
/-- A loop that counts up and stops at the first fault. -/
theorem loop_fault {n : Nat} {g : Nat → Int} {f : Int → Option (Int ⊕ (Int ⊕ Int))} (hn : n ≤ 9223372036854775807)
    (hf : ∀ i, i < n → f (i : Int) = if g i = 0 then some (.inl ((i + 1 : Nat) : Int)) else some (.inr (.inr (g i)))) (hend : f (n : Int) = some (.inr (.inl (n : Int)))) :
    (loopC f 0).bind (outK fun _ => some 0) = some (firstF g 0 n) := by
  obtain ⟨a, ha, hp⟩ := loopC_inv (f := f) (fun i => ∃ k : Nat, i = k ∧ k ≤ n ∧ ∀ j, j < k → g j = 0) (fun i => (n - i).toNat)
    (fun o => match o with | .inl _ => ∀ j, j < n → g j = 0 | .inr b => ∃ k, k < n ∧ (∀ j, j < k → g j = 0) ∧ g k ≠ 0 ∧ b = g k) (s := 0) (by
      rintro _ ⟨k, rfl, hk, hall⟩
      by_cases hlt : k < n
      · by_cases hz : g k = 0
        · refine .inl ⟨_, by rw [hf k hlt, if_pos hz], ⟨k + 1, rfl, hlt, fun j hj => ?_⟩, by omega⟩
          by_cases hjk : j = k
          · subst hjk; exact hz
          · exact hall j (by omega)
        · exact .inr ⟨.inr (g k), by rw [hf k hlt, if_neg hz], k, hlt, hall, hz, rfl⟩
      · have : k = n := by omega
        subst this
        exact .inr ⟨.inl _, hend, hall⟩) ⟨0, rfl, by omega, by omega⟩
  rw [ha]
  cases a with
  | inl i =>
    simp only [Option.bind_some, outK]
    rw [firstF_skip 0 n n (by omega) (fun j _ hj => hp j (by omega))]; simp [firstF]
  | inr b =>
    obtain ⟨k, h1, h2, h3, rfl⟩ := hp
    simp only [Option.bind_some, outK]
    rw [firstF_skip 0 n k (by omega) (fun j _ hj => h2 j (by omega))]
    obtain ⟨m, hm⟩ : ∃ m, n - k = m + 1 := ⟨n - k - 1, by omega⟩
    rw [hm, Nat.zero_add]
    simp only [firstF, h3, ne_eq, not_false_eq_true, if_true]
theorem checkBook_eq (l : List Ev) (hl : Short l) : m_reply_CheckBook l = some (bookFault l) := by
  have hl1 := hl.1
  unfold m_reply_CheckBook sims_G1_3_0; dsimp only
  by_cases hbig : 3000 < l.length
  · have : decide (3000 < (l.length : Int)) = true := by simp; omega
    simp [this, bookFault, hbig]
  · have : decide (3000 < (l.length : Int)) = false := by simp; omega
    simp only [this, cond_false, bookFault, hbig, if_false]
    refine loop_fault hl1 (fun i hi => ?_) ?_
    · have hd : decide ((i : Int) < l.length) = true := by simpa using hi
      simp only [hd, cond_true, eventFault_eq l hl i hi, Option.bind_some, wrapN i (by omega)]
      by_cases hz : faultAt l i = 0 <;> simp [hz, inrO]
    · simp [inrO]
end Go.Proofs.YtlmmfddbpagiaaaDoor

/-
  Plain laws: the sendings of a book, as the program and as the reference find them.
-/
namespace Go.Proofs.YtlmmfddbpagiaaaDoor
set_option linter.unusedSimpArgs false
set_option linter.unusedVariables false
open Go.RowKit

def newS (e : Ev) : Sd := ⟨e.fRef, e.fTime, e.fDue, -1, 0⟩
def ansS (e : Ev) (s : Sd) : Sd := ⟨s.fRef, s.fTime, s.fDue, e.fTime, e.fVerdict⟩
/-- Is sending k one of this reference that waits? -/
def waitsP (out : List Sd) (r : List UInt8) (k : Nat) : Bool := match out[k]? with
  | some s => decide (s.fRef = r) && decide (s.fAnswer < 0)
  | none => false
def openIdx (out : List Sd) (r : List UInt8) : List Nat := (List.range out.length).filter (waitsP out r)
def bstep (st : List Sd × List Int) (i : Nat) (e : Ev) : List Sd × List Int :=
  if e.fKind = 1 then (st.1 ++ [newS e], st.2) else
  match (openIdx st.1 e.fRef).getLast? with
  | none => (st.1, st.2 ++ [(i : Int)])
  | some k => (match st.1[k]? with | some s => st.1.set k (ansS e s) | none => st.1, st.2)
def bkAt (l : List Ev) : Nat → List Sd × List Int
  | 0 => ([], [])
  | n + 1 => match l[n]? with | some e => bstep (bkAt l n) n e | none => bkAt l n
def bookS (l : List Ev) : List Sd × List Int := bkAt l l.length

theorem openIdx_lt {out : List Sd} {r : List UInt8} {k : Nat} (h : k ∈ openIdx out r) : k < out.length ∧ waitsP out r k = true := by
  unfold openIdx at h
  rw [List.mem_filter] at h
  exact ⟨by simpa using h.1, h.2⟩
theorem openIdx_new (out : List Sd) (e : Ev) (r : List UInt8) : openIdx (out ++ [newS e]) r = if e.fRef = r then openIdx out r ++ [out.length] else openIdx out r := by
  unfold openIdx
  rw [List.length_append, List.length_singleton, List.range_succ, List.filter_append]
  have h1 : (List.range out.length).filter (waitsP (out ++ [newS e]) r) = (List.range out.length).filter (waitsP out r) := by
    apply List.filter_congr
    intro k hk
    have : k < out.length := by simpa using hk
    simp only [waitsP, List.getElem?_append_left this]
  rw [h1]
  have h2 : waitsP (out ++ [newS e]) r out.length = decide (e.fRef = r) := by
    simp [waitsP, newS]
  by_cases h : e.fRef = r
  · simp [h2, h]
  · simp [h2, h]
theorem filter_last {p : Nat → Bool} {n k : Nat} (h : ((List.range n).filter p).getLast? = some k) : (List.range n).filter (fun j => p j && decide (j ≠ k)) = ((List.range n).filter p).dropLast := by
  have hn : ((List.range n).filter p).Nodup := (List.nodup_range).filter _
  obtain ⟨L, hL⟩ := List.getLast?_eq_some_iff.1 h
  rw [List.filter_congr (q := fun j => decide (j ≠ k) && p j) (fun j _ => Bool.and_comm _ _), ← List.filter_filter, hL, List.dropLast_concat]
  rw [hL, List.nodup_append] at hn
  rw [List.filter_append]
  have : L.filter (fun j => decide (j ≠ k)) = L := by
    rw [List.filter_eq_self]
    intro a ha
    have := hn.2.2 a ha k (by simp)
    simpa using this
  rw [this]; simp
theorem openIdx_ans {out : List Sd} {e : Ev} {k : Nat} {s : Sd} (ht : 0 ≤ e.fTime) (hk : (openIdx out e.fRef).getLast? = some k) (hs : out[k]? = some s) (r : List UInt8) :
    openIdx (out.set k (ansS e s)) r = if e.fRef = r then (openIdx out r).dropLast else openIdx out r := by
  have hmem : k ∈ openIdx out e.fRef := List.mem_of_getLast? hk
  obtain ⟨hlt, hw⟩ := openIdx_lt hmem
  have hsr : s.fRef = e.fRef := by simp [waitsP, hs] at hw; exact hw.1
  have h1 : ∀ j, waitsP (out.set k (ansS e s)) r j = (waitsP out r j && decide (j ≠ k)) := by
    intro j
    by_cases hj : j = k
    · subst hj
      simp [waitsP, List.getElem?_set_self hlt, ansS]
      intro _; omega
    · have : (out.set k (ansS e s))[j]? = out[j]? := by rw [List.getElem?_set_ne (Ne.symm hj)]
      simp only [waitsP, this]; simp [hj]
  unfold openIdx at *
  rw [List.length_set, List.filter_congr (fun j _ => h1 j)]
  by_cases h : e.fRef = r
  · subst h; simp only [if_true]; exact filter_last hk
  · simp only [h, if_false]
    apply List.filter_congr
    intro j _
    by_cases hj : j = k
    · subst hj
      have : waitsP out r j = false := by simp only [waitsP, hs, hsr, h, decide_false, Bool.false_and]
      simp [this]
    · simp [hj]

/-! ### The program's book -/
theorem getM_put {V : Type} (k : List UInt8) (v : V) (k' : List UInt8) : ∀ (W : List (List UInt8 × V)), getM (putM W k v) k' = if k' = k then some v else getM W k'
  | [] => by simp [putM, getM]
  | p :: W => by
    simp only [putM]
    by_cases h : k = p.1
    · simp only [h, if_true, getM]
      by_cases h' : k' = p.1 <;> simp [h']
    · simp only [h, if_false, getM, getM_put k v k' W]
      by_cases h' : k' = p.1
      · simp [h', Ne.symm h]
      · simp [h']
def wOk (W : List (List UInt8 × List Int)) (out : List Sd) : Prop := ∀ r, (getM W r).getD [] = (openIdx out r).map (fun k : Nat => (k : Int))
theorem bkAt_len (l : List Ev) : ∀ n, (bkAt l n).1.length ≤ n ∧ (bkAt l n).2.length ≤ n
  | 0 => by simp [bkAt]
  | n + 1 => by
    have ih := bkAt_len l n
    simp only [bkAt]
    split
    · rename_i e _
      unfold bstep
      split
      · simp; omega
      · split
        · simp; omega
        · refine ⟨?_, by simp only; omega⟩
          simp only; split
          · simp only [List.length_set]; omega
          · omega
    · omega
theorem openIdx_len (out : List Sd) (r : List UInt8) : (openIdx out r).length ≤ out.length := by
  unfold openIdx; exact Nat.le_trans (List.length_filter_le _ _) (by simp)
theorem sliceI_last (w : List Int) (h : w ≠ []) (hw : w.length ≤ 9223372036854775807) : sliceI w 0 (IntKind.i64.wrap ((w.length : Int) - 1)) = some w.dropLast := by
  have : 0 < w.length := List.length_pos_iff.2 h
  rw [wrap64 _ (by omega) (by omega)]
  unfold sliceI
  rw [if_pos (by omega)]
  simp only [Int.toNat_zero, List.drop_zero, List.dropLast_eq_take]
  congr 2; omega
theorem getI_last (w : List Int) (h : w ≠ []) (hw : w.length ≤ 9223372036854775807) : IntKind.i64.wrap ((w.length : Int) - 1) = ((w.length - 1 : Nat) : Int) := by
  have : 0 < w.length := List.length_pos_iff.2 h
  rw [wrap64 _ (by omega) (by omega)]; omega
theorem book_eq (l : List Ev) (h0 : l.length ≤ 3000) (ht : ∀ e ∈ l, 0 ≤ e.fTime) : m_reply_book l = some (bookS l) := by
  unfold m_reply_book sims_G1_0_1; dsimp only
  generalize hf : (fun s : List Sd × List Int × List (List UInt8 × List Int) × Int => _) = f
  obtain ⟨a, ha, hp⟩ := loopC_inv (f := f) (fun s => ∃ k : Nat, s.2.2.2 = k ∧ k ≤ l.length ∧ s.1 = (bkAt l k).1 ∧ s.2.1 = (bkAt l k).2 ∧ wOk s.2.2.1 s.1) (fun s => (l.length - s.2.2.2).toNat)
    (fun o => match o with | .inl s => s.1 = (bookS l).1 ∧ s.2.1 = (bookS l).2 | .inr _ => False) (s := ([], [], [], 0)) (by
      rintro ⟨out, left, W, i⟩ ⟨k, hk, hkl, h1, h2, hw⟩
      simp only at hk h1 h2 hw
      subst hk
      subst hf
      dsimp only
      obtain ⟨hlen1, hlen2⟩ := bkAt_len l k
      rw [← h1] at hlen1
      rw [← h2] at hlen2
      by_cases hlt : k < l.length
      · obtain ⟨e, he⟩ : ∃ e, l[k]? = some e := ⟨_, List.getElem?_eq_getElem hlt⟩
        have hte := ht e (List.mem_of_getElem? he)
        have hd : decide ((k : Int) < l.length) = true := by simpa using hlt
        have hb : bkAt l (k + 1) = bstep (out, left) k e := by simp only [bkAt, he, h1, h2]
        have hwr := hw e.fRef
        have hol := openIdx_len out e.fRef
        simp only [hd, cond_true, getI_nat, he, Option.bind_some, wrapN k (by omega)]
        by_cases hkind : e.fKind = 1
        · refine .inl ⟨(out ++ [newS e], left, putM W e.fRef ((getM W e.fRef).getD [] ++ [(out.length : Int)]), ((k + 1 : Nat) : Int)), ?_, ⟨k + 1, rfl, hlt, by simp [hb, bstep, hkind], by simp [hb, bstep, hkind], ?_⟩, by simp; omega⟩
          · cases hg : getM W e.fRef with
            | none =>
              simp only [hkind, decide_true, cond_true, optO, List.length_singleton, Option.getD_none, List.nil_append]
              rw [thenO_some (lenO_ok (by omega)), thenO_some (lenO_ok (by omega))]; rfl
            | some w =>
              rw [hg] at hwr
              have : w.length ≤ out.length := by simp only [Option.getD_some] at hwr; rw [hwr]; simpa using hol
              simp only [hkind, decide_true, cond_true, optO, List.length_singleton, Option.getD_some]
              rw [thenO_some (lenO_ok (by omega)), thenO_some (lenO_ok (by omega))]; rfl
          · intro r
            simp only [getM_put, openIdx_new]
            by_cases hr : r = e.fRef
            · subst hr; simp only [if_true, Option.getD_some, hwr, List.map_append, List.map_cons, List.map_nil]
            · simp only [hr, Ne.symm hr, if_false]; exact hw r
        · have hkd : decide (e.fKind = 1) = false := by simpa using hkind
          simp only [hkd, cond_false]
          cases hlast : (openIdx out e.fRef).getLast? with
          | none =>
            have hemp : openIdx out e.fRef = [] := List.getLast?_eq_none_iff.1 hlast
            rw [hemp] at hwr
            have hbb : bstep (out, left) k e = (out, left ++ [(k : Int)]) := by simp [bstep, hkind, hlast]
            cases hg : getM W e.fRef with
            | none =>
              refine .inl ⟨(out, left ++ [(k : Int)], W, ((k + 1 : Nat) : Int)), ?_, ⟨k + 1, rfl, hlt, by rw [hb, hbb], by rw [hb, hbb], hw⟩, by simp; omega⟩
              simp only [optO, List.length_singleton]
              rw [thenO_some (lenO_ok (by omega))]
            | some w =>
              rw [hg] at hwr
              simp at hwr
              subst hwr
              refine .inl ⟨(out, left ++ [(k : Int)], putM W e.fRef [], ((k + 1 : Nat) : Int)), ?_, ⟨k + 1, rfl, hlt, by rw [hb, hbb], by rw [hb, hbb], ?_⟩, by simp; omega⟩
              · simp only [optO, List.length_nil, List.length_singleton]
                rw [thenO_some (lenO_ok (by omega))]; rfl
              · intro r
                simp only [getM_put]
                by_cases hr : r = e.fRef
                · subst hr; simp [hemp]
                · simp only [hr, if_false]; exact hw r
          | some q =>
            obtain ⟨L, hL⟩ := List.getLast?_eq_some_iff.1 hlast
            obtain ⟨hq, hqw⟩ := openIdx_lt (List.mem_of_getLast? hlast)
            obtain ⟨s, hs⟩ : ∃ s, out[q]? = some s := ⟨_, List.getElem?_eq_getElem hq⟩
            have hbb : bstep (out, left) k e = (out.set q (ansS e s), left) := by simp [bstep, hkind, hlast, hs]
            rw [hL, List.map_append] at hwr
            obtain ⟨w, hg⟩ : ∃ w, getM W e.fRef = some w := by
              cases hg : getM W e.fRef with
              | none => rw [hg] at hwr; simp at hwr
              | some w => exact ⟨w, rfl⟩
            rw [hg] at hwr
            simp only [Option.getD_some, List.map_cons, List.map_nil] at hwr
            have hne : w ≠ [] := by rw [hwr]; simp
            have hwl : w.length ≤ 3000 := by
              rw [hwr]; rw [hL] at hol; simp at hol ⊢; omega
            have hwd : w.dropLast = L.map (fun k : Nat => (k : Int)) := by rw [hwr, List.dropLast_concat]
            have hlastw : w[w.length - 1]? = some (q : Int) := by rw [hwr]; simp
            have hnz : decide ((w.length : Int) = 0) = false := by
              have : 0 < w.length := List.length_pos_iff.2 hne
              simp; omega
            refine .inl ⟨(out.set q (ansS e s), left, putM W e.fRef w.dropLast, ((k + 1 : Nat) : Int)), ?_, ⟨k + 1, rfl, hlt, by rw [hb, hbb], by rw [hb, hbb], ?_⟩, by simp; omega⟩
            · simp only [hg, optO, hnz, cond_false, getI_last w hne (by omega), getI_nat, Int.toNat_natCast, hlastw, Option.bind_some, hs, List.getElem?_set_self hq]
              have hsl := sliceI_last w hne (by omega)
              rw [getI_last w hne (by omega)] at hsl
              simp only [hsl, Option.bind_some, List.set_set]; rfl
            · intro r
              simp only [getM_put, openIdx_ans hte hlast hs]
              by_cases hr : r = e.fRef
              · subst hr; simp only [if_true, Option.getD_some, hwd, hL, List.dropLast_concat]
              · simp only [hr, Ne.symm hr, if_false]; exact hw r
      · have hd : decide ((k : Int) < l.length) = false := by simpa using hlt
        have : k = l.length := by omega
        subst this
        refine .inr ⟨.inl (out, left, W, (l.length : Int)), ?_, h1, h2⟩
        simp only [hd, cond_false]; rfl) ⟨0, rfl, by omega, rfl, rfl, fun r => by simp [getM, openIdx]⟩
  rw [ha]
  cases a with
  | inl s => simp only [Option.bind_some, outK]; rw [hp.1, hp.2]
  | inr b => exact hp.elim
end Go.Proofs.YtlmmfddbpagiaaaDoor

/-
  Plain laws: the reference's book; ReplyBooksMatchSpec.
-/
namespace Go.Proofs.YtlmmfddbpagiaaaDoor
set_option linter.unusedSimpArgs false
set_option linter.unusedVariables false
open Go.RowKit

/-! ### Equal lists -/
/-! ### The books -/
theorem evFault_time {e : Ev} (h : evFault e = 0) : 0 ≤ e.fTime ∧ e.fTime ≤ 1000000000000000 := by
  unfold evFault at h
  split at h
  · omega
  · split at h
    · omega
    · rename_i _ hm; simp [isMoment, outside] at hm; omega
theorem faultAt_ev {l : List Ev} (h : ∀ j, j < l.length → faultAt l j = 0) : ∀ e ∈ l, evFault e = 0 := by
  intro e he
  obtain ⟨i, hi, rfl⟩ := List.mem_iff_getElem.1 he
  have := h i hi
  simp only [faultAt, List.getElem?_eq_getElem hi] at this
  split at this
  · rename_i h1; exact absurd this h1
  · rename_i h1; simpa using h1
end Go.Proofs.YtlmmfddbpagiaaaDoor

/-
  Plain laws: states and standings; ReplyBooksMatchSpec.
-/
namespace Go.Proofs.YtlmmfddbpagiaaaDoor
set_option linter.unusedSimpArgs false
set_option linter.unusedVariables false
open Go.RowKit

def stateOf (s : Sd) (m : Int) : Int := if 0 ≤ s.fAnswer then 3 else if s.fDue < m then 2 else 1
theorem stateOf_eq (s : Sd) (m : Int) : m_reply_stateOf s m = some (stateOf s m) := by
  unfold m_reply_stateOf sims_G1_0_0; dsimp only
  unfold stateOf
  by_cases h1 : 0 ≤ s.fAnswer <;> by_cases h2 : s.fDue < m <;> simp [h1, h2]

theorem tw_get {α : Type} {p : α → Bool} : ∀ (l : List α) (i : Nat), i < (l.takeWhile p).length → ∃ e, l[i]? = some e ∧ p e = true
  | [], i, h => by simp at h
  | a :: l, i, h => by
    rw [List.takeWhile_cons] at h
    by_cases hp : p a = true
    · simp only [hp, if_true] at h
      cases i with
      | zero => exact ⟨a, rfl, hp⟩
      | succ i => simpa using tw_get l i (by simpa using h)
    · simp [hp] at h
theorem tw_end {α : Type} {p : α → Bool} : ∀ (l : List α), (l.takeWhile p).length = l.length ∨ ∃ e, l[(l.takeWhile p).length]? = some e ∧ p e = false
  | [] => .inl rfl
  | a :: l => by
    rw [List.takeWhile_cons]
    by_cases hp : p a = true
    · simp only [hp, if_true]
      rcases tw_end (p := p) l with h | ⟨e, h1, h2⟩
      · exact .inl (by simp [h])
      · exact .inr ⟨e, by simpa using h1, h2⟩
    · exact .inr ⟨a, by simp [hp], by simpa using hp⟩
theorem tw_take {α : Type} {p : α → Bool} : ∀ (l : List α), l.take (l.takeWhile p).length = l.takeWhile p
  | [] => rfl
  | a :: l => by
    rw [List.takeWhile_cons]
    by_cases hp : p a = true
    · simp only [hp, if_true, List.length_cons, List.take_succ_cons, tw_take l]
    · simp [hp]
theorem tw_len {α : Type} {p : α → Bool} (l : List α) : (l.takeWhile p).length ≤ l.length := by
  have := congrArg List.length (tw_take (p := p) l)
  rw [List.length_take] at this; omega
theorem sliceI_take {α : Type} (l : List α) (n : Nat) (h : n ≤ l.length) : sliceI l 0 (n : Int) = some (l.take n) := by
  unfold sliceI
  rw [if_pos (by omega)]; simp
/-- The events up to a moment. -/
def upto (l : List Ev) (m : Int) : List Ev := l.takeWhile fun e => decide (e.fTime ≤ m)
theorem at_eq (l : List Ev) (h0 : l.length ≤ 3000) (ht : ∀ e ∈ l, 0 ≤ e.fTime) (m : Int) : m_reply_at l m = some (bookS (upto l m)).1 := by
  have hlen := tw_len (p := fun e : Ev => decide (e.fTime ≤ m)) l
  unfold m_reply_at sims_G1_1_0; dsimp only
  refine bind_loop (loop_trace (a := .inl ((upto l m).length : Int)) (fun i : Nat => (i : Int)) (upto l m).length (fun i hi => ?_) ?_) ?_
  · obtain ⟨e, he, hp⟩ := tw_get l i hi
    have hil : i < l.length := (List.getElem?_eq_some_iff.1 he).1
    simp only [lt_dec hil, getI_nat, he, Option.bind_some, hp, andO_some, Bool.and_self, cond_true, wrapN i (by omega)]
  · rcases tw_end (p := fun e : Ev => decide (e.fTime ≤ m)) l with h | ⟨e, h1, h2⟩
    · have : decide (((upto l m).length : Int) < (l.length : Int)) = false := by unfold upto; rw [h]; simp
      simp only [this, andO, cond_false, Option.bind_some]; rfl
    · have hil := (List.getElem?_eq_some_iff.1 h1).1
      have hd := lt_dec hil
      unfold upto
      simp only [hd, getI_nat, h1, Option.bind_some, h2, andO_some, Bool.and_false, cond_false]; rfl
  · have hb := book_eq (upto l m) (by unfold upto; omega) (fun e he => ht e (by unfold upto at he; exact (List.takeWhile_prefix _).sublist.subset he))
    have hs : sliceI l 0 ((upto l m).length : Int) = some (upto l m) := by
      unfold upto; rw [sliceI_take _ _ hlen, tw_take]
    simp only [outK, Option.getD_none, Option.getD_some, hs, Option.bind_some, hb]

abbrev Stg := Tapi_Standing
def stg0 : Stg := ⟨0, 0, 0, 0, 0, 0⟩
def inc (b : Bool) (n : Int) : Int := bif b then IntKind.i64.wrap (n + 1) else n
def stStep (m : Int) (x : Stg) (s : Sd) : Stg :=
  ⟨inc (decide (stateOf s m = 1)) x.fWaits, inc (decide (stateOf s m = 2)) x.fLate, inc (decide (s.fVerdict = 1)) x.fTaken, inc (decide (s.fVerdict = 2)) x.fFlawed, inc (decide (s.fVerdict = 3)) x.fRefused, inc (decide (s.fDue < s.fAnswer)) x.fOverdue⟩
def standOf (l : List Ev) (m : Int) : Stg := (bookS (upto l m)).1.foldl (stStep m) stg0
def standRes (l : List Ev) (m : Int) : Stg × Int := if bookFault l ≠ 0 then (stg0, bookFault l) else if isMoment m = false then (stg0, 1) else (standOf l m, 0)
theorem bookS_len (l : List Ev) : (bookS l).1.length ≤ l.length := (bkAt_len l l.length).1
theorem StandingAt_eq (l : List Ev) (hl : Short l) (m : Int) : m_reply_StandingAt l m = some (standRes l m) := by
  unfold m_reply_StandingAt sims_G1_4_0; dsimp only
  simp only [checkBook_eq l hl, Option.bind_some, isMoment_eq]
  unfold standRes
  by_cases h : bookFault l = 0
  · obtain ⟨h1, h2⟩ := bookFault_zero h
    have hev := faultAt_ev h2
    cases hm : isMoment m with
    | false => simp [h, stg0]
    | true =>
      simp only [h, decide_true, Bool.not_true, cond_false, at_eq l h1 (fun e he => (evFault_time (hev e he)).1), Option.bind_some, ne_eq, not_true_eq_false, if_false, Bool.true_eq_false]
      have hlen : (bookS (upto l m)).1.length ≤ 3000 := Nat.le_trans (bookS_len _) (Nat.le_trans (tw_len _) h1)
      unfold standOf
      generalize hb : (bookS (upto l m)).1 = b at *
      refine bind_loop (loop_trace (a := .inl (b.foldl (stStep m) stg0, (b.length : Int))) (fun i : Nat => ((b.take i).foldl (stStep m) stg0, (i : Int))) b.length (fun i hi => ?_) ?_) rfl
      · obtain ⟨e, he⟩ := get_lt hi
        simp only [lt_dec hi, cond_true, getI_nat, he, Option.bind_some, stateOf_eq, foldl_snoc he, wrapN i (by omega)]
        generalize List.foldl (stStep m) stg0 (List.take i b) = x
        unfold stStep
        by_cases k1 : stateOf e m = 1
        · by_cases v1 : e.fVerdict = 1
          · by_cases d : e.fDue < e.fAnswer <;> simp [k1, v1, d, inc]
          · by_cases v2 : e.fVerdict = 2
            · by_cases d : e.fDue < e.fAnswer <;> simp [k1, v2, d, inc]
            · by_cases v3 : e.fVerdict = 3 <;> by_cases d : e.fDue < e.fAnswer <;> simp [k1, v1, v2, v3, d, inc]
        · by_cases k2 : stateOf e m = 2
          · by_cases v1 : e.fVerdict = 1
            · by_cases d : e.fDue < e.fAnswer <;> simp [k2, v1, d, inc]
            · by_cases v2 : e.fVerdict = 2
              · by_cases d : e.fDue < e.fAnswer <;> simp [k2, v2, d, inc]
              · by_cases v3 : e.fVerdict = 3 <;> by_cases d : e.fDue < e.fAnswer <;> simp [k2, v1, v2, v3, d, inc]
          · by_cases v1 : e.fVerdict = 1
            · by_cases d : e.fDue < e.fAnswer <;> simp [k1, k2, v1, d, inc]
            · by_cases v2 : e.fVerdict = 2
              · by_cases d : e.fDue < e.fAnswer <;> simp [k1, k2, v2, d, inc]
              · by_cases v3 : e.fVerdict = 3 <;> by_cases d : e.fDue < e.fAnswer <;> simp [k1, k2, v1, v2, v3, d, inc]
      · simp only [lt_dec_self, cond_false, List.take_length]; rfl
  · simp [h, stg0]
theorem awake_eq : m_interchangelaw7_awake = some true := by
  unfold m_interchangelaw7_awake sims_G1_5_0; dsimp only
  have h := StandingAt_eq [⟨1, 0, 0, [65], 0⟩] ⟨by simp, by simp⟩ 0
  have h2 : (standRes [⟨1, 0, 0, [65], 0⟩] 0).1.fWaits = 1 ∧ (standRes [⟨1, 0, 0, [65], 0⟩] 0).2 = 0 := by decide +kernel
  simp only [h, Option.bind_some, h2.1, h2.2, decide_true, andO_some, Bool.and_self]
end Go.Proofs.YtlmmfddbpagiaaaDoor

/-
  Plain laws: ReplyBooksBelong.
-/
namespace Go.Proofs.YtlmmfddbpagiaaaDoor
set_option linter.unusedSimpArgs false
set_option linter.unusedVariables false
open Go.RowKit

def sentP (e : Ev) : Bool := decide (e.fKind = 1)
def keyE (e : Ev) : List UInt8 × Int × Int := (e.fRef, e.fTime, e.fDue)
def keyS (s : Sd) : List UInt8 × Int × Int := (s.fRef, s.fTime, s.fDue)
def answered (s : Sd) : Bool := decide (0 ≤ s.fAnswer)
def goodS (s : Sd) : Prop := (s.fAnswer = -1 ∧ s.fVerdict = 0) ∨ (0 ≤ s.fAnswer ∧ s.fTime ≤ s.fAnswer ∧ s.fVerdict ≠ 0)
structure BInv (l : List Ev) (n : Nat) (st : List Sd × List Int) : Prop where
  keys : st.1.map keyS = ((l.take n).filter sentP).map keyE
  good : ∀ s ∈ st.1, goodS s
  time : ∀ s ∈ st.1, ∃ i e, i < n ∧ l[i]? = some e ∧ s.fTime = e.fTime
  lone : ∀ x ∈ st.2, ∃ (k : Nat) (e : Ev), x = k ∧ k < n ∧ l[k]? = some e ∧ e.fKind = 2
  many : (st.1.filter answered).length + st.2.length = ((l.take n).filter (fun e => !sentP e)).length
end Go.Proofs.YtlmmfddbpagiaaaDoor

/- Imports alone. -/


/-
  Plain laws: ReplyStatesAddUp.
-/
namespace Go.Proofs.YtlmmfddbpagiaaaDoor
set_option linter.unusedSimpArgs false
set_option linter.unusedVariables false
open Go.RowKit

theorem faultAt_take {l : List Ev} {n j : Nat} (h : j < n) : faultAt (l.take n) j = faultAt l j := by
  have h1 : (l.take n)[j]? = l[j]? := List.getElem?_take_of_lt h
  have h2 : (l.take n)[j - 1]? = l[j - 1]? := List.getElem?_take_of_lt (by omega)
  unfold faultAt early
  rw [h1, h2]
theorem upto_take (l : List Ev) (m : Int) : upto l m = l.take (upto l m).length := (tw_take l).symm
theorem upto_len (l : List Ev) (m : Int) : (upto l m).length ≤ l.length := tw_len l
theorem upto_fault {l : List Ev} (hf : ∀ j, j < l.length → faultAt l j = 0) (m : Int) : ∀ j, j < (upto l m).length → faultAt (upto l m) j = 0 := by
  intro j hj
  have := upto_len l m
  rw [upto_take l m, faultAt_take hj]
  exact hf j (by omega)
end Go.Proofs.YtlmmfddbpagiaaaDoor

/-
  Plain laws: the reference's book at a moment; StateAt and StandingAt of both.
-/
namespace Go.Proofs.YtlmmfddbpagiaaaDoor
set_option linter.unusedSimpArgs false
set_option linter.unusedVariables false
open Go.RowKit

/-! ### StateAt -/
/-! ### StandingAt -/
end Go.Proofs.YtlmmfddbpagiaaaDoor

/-
  Plain laws: Again of both (what is sorted, and what is put in its place).
-/
namespace Go.Proofs.YtlmmfddbpagiaaaDoor
set_option linter.unusedSimpArgs false
set_option linter.unusedVariables false
open Go.RowKit

abbrev Bs := List UInt8
/-! ### Lists without repetition, in order -/
theorem bs_lt_of {a b : Bs} (h : a ≤ b) (hn : a ≠ b) : a < b := by
  by_cases hl : a < b
  · exact hl
  · exact absurd (List.le_antisymm h (List.not_lt.1 hl)) hn
theorem ss_ext : ∀ {a b : List Bs}, a.Pairwise (· < ·) → b.Pairwise (· < ·) → (∀ x, x ∈ a ↔ x ∈ b) → a = b
  | [], [], _, _, _ => rfl
  | [], y :: b, _, _, h => absurd ((h y).2 (by simp)) (by simp)
  | x :: a, [], _, _, h => absurd ((h x).1 (by simp)) (by simp)
  | x :: a, y :: b, ha, hb, h => by
    rw [List.pairwise_cons] at ha hb
    have hxy : x = y := by
      rcases List.mem_cons.1 ((h x).1 (by simp)) with h1 | h1
      · exact h1
      · rcases List.mem_cons.1 ((h y).2 (by simp)) with h2 | h2
        · exact h2.symm
        · exact absurd (List.lt_trans (hb.1 _ h1) (ha.1 _ h2)) (List.lt_irrefl _)
    subst hxy
    rw [ss_ext ha.2 hb.2 fun z => ⟨fun hz => ?_, fun hz => ?_⟩]
    · rcases List.mem_cons.1 ((h z).1 (List.mem_cons_of_mem _ hz)) with h1 | h1
      · subst h1; exact absurd (ha.1 _ hz) (List.lt_irrefl _)
      · exact h1
    · rcases List.mem_cons.1 ((h z).2 (List.mem_cons_of_mem _ hz)) with h1 | h1
      · subst h1; exact absurd (hb.1 _ hz) (List.lt_irrefl _)
      · exact h1
theorem ss_sort {l : List Bs} (h : l.Nodup) : (l.mergeSort fun x y => decide (x ≤ y)).Pairwise (· < ·) := by
  have h1 := List.pairwise_mergeSort (le := fun x y : Bs => decide (x ≤ y)) (fun a b c h1 h2 => by simp at h1 h2 ⊢; exact List.le_trans h1 h2) (fun a b => by simp; exact List.le_total a b) l
  have h2 : (l.mergeSort fun x y => decide (x ≤ y)).Pairwise (· ≠ ·) := (List.mergeSort_perm l _).nodup_iff.2 h
  exact (h1.and h2).imp fun ⟨h3, h4⟩ => bs_lt_of (by simpa using h3) h4
/-! ### The program's maps -/
def fW1 (m : Int) (b : List Sd) : List (Bs × Int) := b.foldl (fun W s => putM W s.fRef (stateOf s m)) []
def fW2 (b : List Sd) : List (Bs × Int) := b.foldl (fun W s => putM W s.fRef (IntKind.i64.wrap ((getM W s.fRef).getD 0 + 1))) []
def fW3 (b : List Sd) : List (Bs × Bool) := b.foldl (fun W s => if s.fVerdict = 1 ∨ s.fVerdict = 2 then putM W s.fRef true else W) []
def cntR (b : List Sd) (r : Bs) : Nat := (b.filter fun s => decide (s.fRef = r)).length
def takenB (b : List Sd) (r : Bs) : Bool := b.any fun s => decide (s.fRef = r) && (decide (s.fVerdict = 1) || decide (s.fVerdict = 2))
theorem snoc_ind {α : Type} {p : List α → Prop} (h0 : p []) (h1 : ∀ l a, p l → p (l ++ [a])) (l : List α) : p l := by
  rw [← List.reverse_reverse l]
  induction l.reverse with
  | nil => exact h0
  | cons a l ih => rw [List.reverse_cons]; exact h1 _ _ ih
theorem fW2_get (r : Bs) (b : List Sd) : b.length ≤ 3000 → (getM (fW2 b) r).getD 0 = (cntR b r : Int) := by
  refine snoc_ind (p := fun b => b.length ≤ 3000 → (getM (fW2 b) r).getD 0 = (cntR b r : Int)) (fun _ => rfl) (fun l a ih h => ?_) b
  simp only [List.length_append, List.length_singleton] at h
  have ih := ih (by omega)
  have hle : cntR l r ≤ l.length := List.length_filter_le _ _
  have e1 : fW2 (l ++ [a]) = putM (fW2 l) a.fRef (IntKind.i64.wrap ((getM (fW2 l) a.fRef).getD 0 + 1)) := by simp [fW2]
  rw [e1, getM_put]
  have e2 : cntR (l ++ [a]) r = cntR l r + (if a.fRef = r then 1 else 0) := by
    unfold cntR; rw [List.filter_append, List.length_append]
    by_cases h : a.fRef = r <;> simp [h]
  rw [e2]
  by_cases hr : r = a.fRef
  · subst hr
    simp only [if_true, Option.getD_some, ih]
    rw [wrap64 _ (by omega) (by omega)]; simp
  · have : ¬ a.fRef = r := fun h => hr h.symm
    simp only [hr, this, if_false]; simpa using ih
theorem fW3_get (r : Bs) (b : List Sd) : (getM (fW3 b) r).getD false = takenB b r := by
  refine snoc_ind (p := fun b => (getM (fW3 b) r).getD false = takenB b r) rfl (fun l a ih => ?_) b
  have e1 : fW3 (l ++ [a]) = if a.fVerdict = 1 ∨ a.fVerdict = 2 then putM (fW3 l) a.fRef true else fW3 l := by simp [fW3]
  have e2 : takenB (l ++ [a]) r = (takenB l r || (decide (a.fRef = r) && (decide (a.fVerdict = 1) || decide (a.fVerdict = 2)))) := by simp [takenB]
  rw [e1, e2]
  by_cases hv : a.fVerdict = 1 ∨ a.fVerdict = 2
  · have hv' : (decide (a.fVerdict = 1) || decide (a.fVerdict = 2)) = true := by simpa using hv
    rw [if_pos hv, getM_put, hv']
    by_cases hr : r = a.fRef
    · subst hr; simp
    · have : ¬ a.fRef = r := fun h => hr h.symm
      simp [hr, this, ih]
  · have hv' : (decide (a.fVerdict = 1) || decide (a.fVerdict = 2)) = false := by simpa using hv
    rw [if_neg hv, hv', ih]; simp
theorem putM_keys {V : Type} (k : Bs) (v : V) : ∀ (W : List (Bs × V)), (W.map (·.1)).Nodup → ((putM W k v).map (·.1)).Nodup ∧ (∀ q ∈ putM W k v, q.1 = k ∨ q.1 ∈ W.map (·.1)) ∧ (putM W k v).length ≤ W.length + 1
  | [], _ => by simp [putM]
  | p :: W, h => by
    obtain ⟨k0, v0⟩ := p
    simp only [List.map_cons, List.nodup_cons] at h
    obtain ⟨h1, h2, h3⟩ := putM_keys k v W h.2
    unfold putM
    by_cases hk : k = k0
    · subst hk
      simp only [if_true, List.map_cons, List.nodup_cons]
      refine ⟨h, fun q hq => ?_, by simp⟩
      rcases List.mem_cons.1 hq with rfl | hq
      · exact .inl rfl
      · exact .inr (by simp; exact .inr ⟨q.2, hq⟩)
    · simp only [hk, if_false, List.map_cons, List.nodup_cons, List.length_cons]
      refine ⟨⟨fun hm => ?_, h1⟩, fun q hq => ?_, by omega⟩
      · obtain ⟨q, hq, he⟩ := List.mem_map.1 hm
        rcases h2 q hq with h4 | h4
        · exact hk (h4.symm.trans he)
        · exact h.1 (he ▸ h4)
      · rcases List.mem_cons.1 hq with rfl | hq
        · exact .inr (by simp)
        · rcases h2 q hq with h4 | h4
          · exact .inl h4
          · exact .inr (List.mem_cons_of_mem _ h4)
theorem fW1_keys (m : Int) (b : List Sd) : ((fW1 m b).map (·.1)).Nodup ∧ (fW1 m b).length ≤ b.length := by
  refine snoc_ind (p := fun b => ((fW1 m b).map (·.1)).Nodup ∧ (fW1 m b).length ≤ b.length) (by simp [fW1]) (fun l a ih => ?_) b
  have e1 : fW1 m (l ++ [a]) = putM (fW1 m l) a.fRef (stateOf a m) := by simp [fW1]
  obtain ⟨h1, _, h3⟩ := putM_keys a.fRef (stateOf a m) (fW1 m l) ih.1
  rw [e1]
  exact ⟨h1, by simp; omega⟩
def againP (b : List Sd) (t : Int) (e : Bs × Int) : Bool := decide (e.2 = 2) && !takenB b e.1 && decide ((cntR b e.1 : Int) < t)
def againS (b : List Sd) (m t : Int) : List Bs := (((fW1 m b).filter (againP b t)).map (·.1)).mergeSort fun x y => decide (x ≤ y)
theorem sub_nodup {m : Int} {b : List Sd} {p : Bs × Int → Bool} {l : List (Bs × Int)} (hl : l.Perm (fW1 m b)) : ((l.filter p).map (·.1)).Nodup :=
  ((List.filter_sublist (l := l) (p := p)).map _).nodup ((hl.map _).nodup_iff.2 (fW1_keys m b).1)
theorem again_perm {m t : Int} {b : List Sd} {l : List (Bs × Int)} (hl : l.Perm (fW1 m b)) : (((l.filter (againP b t)).map (·.1)).mergeSort fun x y => decide (x ≤ y)) = againS b m t := by
  unfold againS
  refine ss_ext (ss_sort (sub_nodup hl)) (ss_sort (sub_nodup (.refl _))) fun x => ?_
  simp only [List.mem_mergeSort]
  exact ((hl.filter _).map _).mem_iff
theorem again_len (b : List Sd) (m t : Int) : (againS b m t).length ≤ b.length := by
  unfold againS
  rw [List.length_mergeSort, List.length_map]
  exact Nat.le_trans (List.length_filter_le _ _) (fW1_keys m b).2
def againRes (l : List Ev) (m t : Int) : List Bs × Int :=
  if bookFault l ≠ 0 then ([], bookFault l) else if (!isMoment m || outside t 1 20) = true then ([], 1) else (againS (bookS (upto l m)).1 m t, 0)

theorem Again_eq (l : List Ev) (hl : Short l) (m t : Int) : m_reply_Again l m t = some (againRes l m t) := by
  unfold m_reply_Again sims_G1_4_0; dsimp only
  simp only [checkBook_eq l hl, Option.bind_some, isMoment_eq, outside_eq, orO_some, andO_some]
  unfold againRes
  by_cases h : bookFault l = 0
  · obtain ⟨h1, h2⟩ := bookFault_zero h
    have hev := faultAt_ev h2
    simp only [h, decide_true, Bool.not_true, cond_false, ne_eq, not_true_eq_false, if_false]
    cases hc : (!isMoment m || outside t 1 20) with
    | true => simp
    | false =>
      simp only [cond_false, Bool.false_eq_true, if_false, at_eq l h1 (fun e he => (evFault_time (hev e he)).1), Option.bind_some]
      have hlen : (bookS (upto l m)).1.length ≤ 3000 := Nat.le_trans (bookS_len _) (Nat.le_trans (tw_len _) h1)
      generalize (bookS (upto l m)).1 = b at *
      refine bind_loop (loop_trace (a := .inl (fW1 m b, fW2 b, fW3 b, (b.length : Int))) (fun i : Nat => (fW1 m (b.take i), fW2 (b.take i), fW3 (b.take i), (i : Int))) b.length (fun i hi => ?_) ?_) ?_
      · obtain ⟨e, he⟩ := get_lt hi
        have e1 : fW1 m (b.take (i + 1)) = putM (fW1 m (b.take i)) e.fRef (stateOf e m) := by unfold fW1; rw [foldl_snoc he]
        have e2 : fW2 (b.take (i + 1)) = putM (fW2 (b.take i)) e.fRef (IntKind.i64.wrap ((getM (fW2 (b.take i)) e.fRef).getD 0 + 1)) := by unfold fW2; rw [foldl_snoc he]
        have e3 : fW3 (b.take (i + 1)) = if e.fVerdict = 1 ∨ e.fVerdict = 2 then putM (fW3 (b.take i)) e.fRef true else fW3 (b.take i) := by unfold fW3; rw [foldl_snoc he]
        simp only [lt_dec hi, cond_true, getI_nat, he, Option.bind_some, stateOf_eq, wrapN i (by omega), e1, e2, e3]
        by_cases hv : e.fVerdict = 1 ∨ e.fVerdict = 2
        · have hv' : (decide (e.fVerdict = 1) || decide (e.fVerdict = 2)) = true := by simpa using hv
          simp only [hv', cond_true, if_pos hv]
        · have hv' : (decide (e.fVerdict = 1) || decide (e.fVerdict = 2)) = false := by simpa using hv
          simp only [hv', cond_false, if_neg hv]
      · simp only [lt_dec_self, cond_false, List.take_length]; rfl
      · simp only [outK]
        refine rangeC_of fun l' hp => ?_
        have hlen' : l'.length ≤ 3000 := by have := hp.length_eq; have := (fW1_keys m b).2; omega
        have key : ∀ (q : List (Bs × Int)) (s : List Bs), s.length + q.length ≤ 3000 → foldC (fun (e : Bs × Int) (s_1 : List Bs) =>
            bif decide (e.snd = 2) && (!(getM (fW3 b) e.fst).getD false) && decide ((getM (fW2 b) e.fst).getD 0 < t) then thenO (lenO (s_1.length + [e.fst].length)) (some (Sum.inl (s_1 ++ [e.fst])))
              else some (Sum.inl s_1)) (fun s => (m_slices_Sort_string_string s).bind fun y => some (y, (0 : Int))) q s = (m_slices_Sort_string_string (s ++ (q.filter (againP b t)).map (·.1))).bind fun y => some (y, 0) := by
          intro q
          induction q with
          | nil => intro s hs; simp [foldC]
          | cons e q ih =>
            intro s hs
            simp only [List.length_cons] at hs
            have hcond : (decide (e.snd = 2) && (!(getM (fW3 b) e.fst).getD false) && decide ((getM (fW2 b) e.fst).getD 0 < t)) = againP b t e := by
              unfold againP; rw [fW3_get, fW2_get _ _ hlen]
            simp only [foldC, hcond]
            cases ha : againP b t e with
            | true =>
              simp only [cond_true]
              rw [thenO_some (lenO_ok (by simp only [List.length_singleton]; omega))]
              simp only [ih (s ++ [e.1]) (by simp; omega), List.filter_cons, ha, if_true, List.map_cons, List.append_assoc, List.singleton_append]
            | false =>
              simp only [cond_false, ih s (by omega), List.filter_cons, ha, Bool.false_eq_true, if_false]
        rw [key l' [] (by simpa using hlen'), List.nil_append]
        have hf : ((l'.filter (againP b t)).map (·.1)).length < 4611686018427387904 := by
          rw [List.length_map]
          have := List.length_filter_le (againP b t) l'
          omega
        unfold m_slices_Sort_string_string
        rw [if_pos hf, again_perm hp]; rfl
  · simp [h]
end Go.Proofs.YtlmmfddbpagiaaaDoor

/-
  Plain laws: the reference's Again; ReplyStatesMatchSpec, ReplyLaterChangesNothing.
-/
namespace Go.Proofs.YtlmmfddbpagiaaaDoor
set_option linter.unusedSimpArgs false
set_option linter.unusedVariables false
open Go.RowKit

theorem equalB_refl (l : List Bs) (hl : l.length ≤ 9223372036854775807) : m_slices_Equal_string_string l l = some true := by
  unfold m_slices_Equal_string_string sims_G1_0_0; dsimp only
  simp only [decide_true, Bool.not_true, cond_false]
  refine bind_loop (loop_trace (a := .inl (l.length : Int)) (fun i : Nat => (i : Int)) l.length (fun i hi => ?_) ?_) rfl
  · obtain ⟨e, he⟩ := get_lt hi
    simp only [lt_dec hi, cond_true, getI_nat, he, Option.bind_some, decide_true, Bool.not_true, cond_false, wrapN i (by omega)]
  · simp only [lt_dec_self, cond_false]; rfl
theorem againRes_len (l : List Ev) (m t : Int) : (againRes l m t).1.length ≤ 3000 := by
  unfold againRes
  split
  · simp
  · rename_i h
    split
    · simp
    · obtain ⟨h1, _⟩ := bookFault_zero (Decidable.not_not.1 h)
      exact Nat.le_trans (again_len _ _ _) (Nat.le_trans (bookS_len _) (Nat.le_trans (tw_len _) h1))
theorem tw_self {α : Type} {p : α → Bool} : ∀ {l : List α}, (∀ e ∈ l, p e = true) → l.takeWhile p = l
  | [], _ => rfl
  | a :: l, h => by rw [List.takeWhile_cons_of_pos (h a (by simp)), tw_self fun e he => h e (by simp [he])]
theorem upto_upto (l : List Ev) (m : Int) : upto (upto l m) m = upto l m := by
  unfold upto
  exact tw_self fun e he => by
    obtain ⟨i, hi, rfl⟩ := List.getElem_of_mem he
    obtain ⟨e', h1, h2⟩ := tw_get l i hi
    have h3 : (l.takeWhile fun e => decide (e.fTime ≤ m))[i]? = some e' := by
      rw [← tw_take, List.getElem?_take_of_lt hi]; exact h1
    rw [List.getElem?_eq_getElem hi] at h3
    rw [Option.some.inj h3]; exact h2
theorem bookFault_upto {l : List Ev} (h : bookFault l = 0) (m : Int) : bookFault (upto l m) = 0 := by
  obtain ⟨h1, h2⟩ := bookFault_zero h
  exact bookFault_none (by have := upto_len l m; omega) (upto_fault h2 m)
theorem short_upto {l : List Ev} (hl : Short l) (m : Int) : Short (upto l m) := by
  have := upto_len l m
  refine ⟨Nat.le_trans this hl.1, fun e he => hl.2 e ?_⟩
  unfold upto at he
  exact (List.takeWhile_prefix _).sublist.subset he
theorem law_Later (l : List Ev) (hl : Short l) (m t : Int) : m_interchangelaw7_ReplyLaterChangesNothing l m t = some true := by
  have hlen := againRes_len l m t
  unfold m_interchangelaw7_ReplyLaterChangesNothing sims_G1_6_0; dsimp only
  simp only [StandingAt_eq l hl, Again_eq l hl, Option.bind_some]
  by_cases hok : (standRes l m).2 = 0 ∧ (againRes l m t).2 = 0
  · obtain ⟨k1, k2⟩ := hok
    have hb : bookFault l = 0 := by
      by_cases h : bookFault l = 0
      · exact h
      · unfold standRes at k1; rw [if_pos h] at k1; exact absurd k1 h
    have hm : isMoment m = true := by
      cases h : isMoment m with
      | true => rfl
      | false => unfold standRes at k1; simp [hb, h] at k1
    have ht : outside t 1 20 = false := by
      cases h : outside t 1 20 with
      | false => rfl
      | true => unfold againRes at k2; simp [hb, h] at k2
    have hlt : l.length ≤ 9223372036854775807 := hl.1
    have hl3 := (bookFault_zero hb).1
    have e1 : standRes (upto l m) m = standRes l m := by
      unfold standRes standOf; simp only [hb, bookFault_upto hb m, upto_upto]
    have e2 : againRes (upto l m) m t = againRes l m t := by
      unfold againRes; simp only [hb, bookFault_upto hb m, upto_upto]
    simp only [k1, k2, decide_true, Bool.not_true, orO_some, Bool.or_self, Option.bind_some, cond_false]
    refine bind_loop (loop_trace (a := .inl ((upto l m).length : Int)) (fun i : Nat => (i : Int)) (upto l m).length (fun i hi => ?_) ?_) ?_
    · have hil : i < l.length := Nat.lt_of_lt_of_le hi (upto_len l m)
      obtain ⟨e, h1, h2⟩ := tw_get l i hi
      simp only [lt_dec hil, getI_nat, h1, Option.bind_some, h2, andO_some, Bool.and_self, cond_true, wrapN i (by omega)]
    · rcases tw_end (p := fun e : Ev => decide (e.fTime ≤ m)) l with h1 | ⟨e0, h1, h2⟩
      · have : (upto l m).length = l.length := h1
        simp only [this, lt_dec_self]; simp [andO, inrO]
      · have h1' : l[(upto l m).length]? = some e0 := h1
        have hd := lt_dec (List.getElem?_eq_some_iff.1 h1').1
        simp only [hd, getI_nat, h1', Option.bind_some, h2, andO_some, Bool.and_false, cond_false]; rfl
    · have hs : sliceI l ((none : Option Int).getD 0) ((upto l m).length : Int) = some (upto l m) := by
        refine (sliceI_take l _ (upto_len l m)).trans ?_
        rw [← upto_take]
      simp only [outK, hs, Option.bind_some, StandingAt_eq _ (short_upto hl m), Again_eq _ (short_upto hl m), e1, e2, k1, k2, decide_true, andO_some, Bool.and_self, equalB_refl _ (by omega : (againRes l m t).1.length ≤ 9223372036854775807), awake_eq]
  · have hv : (!decide ((standRes l m).2 = 0) || !decide ((againRes l m t).2 = 0)) = true := by
      by_cases h1 : (standRes l m).2 = 0
      · have : ¬ (againRes l m t).2 = 0 := fun h2 => hok ⟨h1, h2⟩
        simp [this]
      · simp [h1]
    have hn : (againRes l m t).1.length = 0 := by
      unfold againRes standRes at *
      by_cases hb : bookFault l = 0
      · cases hm : isMoment m with
        | false => simp [hb, hm]
        | true =>
          cases ht : outside t 1 20 with
          | true => simp [hb, hm, ht]
          | false => exact absurd ⟨by simp [hb, hm], by simp [hb, hm, ht]⟩ hok
      · simp [hb]
    have hst : (standRes l m).2 ≠ 0 → (standRes l m).1 = stg0 := by
      intro h
      unfold standRes at h ⊢
      by_cases hb : bookFault l = 0
      · cases hm : isMoment m with
        | false => simp [hb]
        | true => simp [hb, hm] at h
      · simp [hb]
    simp only [orO_some, Option.bind_some, hv, cond_true]
    by_cases h1 : (standRes l m).2 = 0
    · simp only [h1, decide_true, Bool.true_or, andO_some, Option.bind_some, hn, awake_eq]
      rfl
    · rw [hst h1]
      simp only [h1, decide_false, Bool.false_or, andO_some, Option.bind_some, hn, awake_eq]
      rfl
end Go.Proofs.YtlmmfddbpagiaaaDoor
