/-
  Texts of mine, one behind the other (SAShelf, SALibT, SALibS, SAG1, SALibO, SALibP, SALibC, SAShelfC, SALibD, SACodeN, SANC, SACodeR, SANK, SANX, SAG2, SAG3).
-/
import Derived.Ground.NamesProg
import Derived.Shelf.Strings.SlTrimAscii
import Derived.Shelf.Small.Strs
import Derived.Shelf.Strings.IndexAnyAll
import Derived.Test.YthailknfgcegoaaGreatDoorProg
import Derived.Test.YthailknfgcegoaaGreatDoorSAEngY
import Derived.KernelRfl
import Derived.Test.YthailknfgcegoaaGreatDoorSAEngZ
import Derived.Test.YthailknfgcegoaaGreatDoorSAEngX
import Derived.Shelf.SlicesE.Clone
import Derived.Shelf.SlGeneric
import Derived.Ground.SlgnProg
import Derived.Test.YthailknfgcegoaaGreatDoorSAEngW
import Derived.Test.YthailknfgcegoaaGreatDoorSAEngWk
/-
  DERIVED: THE SHELF's CONTRACTS AT THIS DUMP, IN PLAIN WORDS (tools/lay-plain.mjs out of 'YthailknfgcegoaaGreatDoorShelf.lean', which tools/lay-shelf.mjs wrote): THE SAME DECLARATIONS UNDER THE SAME NAMES: 'import', 'namespace', 'open', 'def', 'theorem' AND NOTHING ELSE: no command of the shelf's: FOR A HAND-IN. Each laying: the table of numbers ('.._ren') and one theorem, a field a fact of the dump's own or the kernel's comparison; each contract: ONE APPLICATION.
-/
namespace Go.Proofs
open Go.Shelf
def Tryz.lays160_ren : Go.Shelf.Ren := ⟨fun | 160 => 81 | 232 => 111 | 231 => 110 | 227 => 112 | 234 => 114 | 233 => 113 | 236 => 116 | 235 => 115 | 228 => 142 | 271 => 145 | 151 => 144 | 197 => 143 | 120 => 164 | 152 => 163 | 260 => 162 | 137 => 160 | 119 => 175 | 224 => 176 | 225 => 177 | 217 => 173 | 266 => 181 | n => n, fun | 9 => 9 | 4 => 4 | 3 => 3 | 5 => 5 | 117 => 172 | 116 => 171 | 0 => 0 | 124 => 175 | 21 => 21 | 105 => 194 | 46 => 220 | 119 => 222 | 139 => 225 | 138 => 224 | n => n, fun | 3 => 1 | 4 => 2 | n => n⟩
theorem Tryz.lays160 : Go.Proofs.Lays.n160 Tryz.prog Tryz.lays160_ren := {
  mixed := by kernel_rfl
  f119 := Tryz.func175.trans (congrArg some (by kernel_rfl))
  f120 := Tryz.func164.trans (congrArg some (by kernel_rfl))
  f137 := Tryz.func160.trans (congrArg some (by kernel_rfl))
  f151 := Tryz.func144.trans (congrArg some (by kernel_rfl))
  f152 := Tryz.func163.trans (congrArg some (by kernel_rfl))
  f160 := Tryz.func81.trans (congrArg some (by kernel_rfl))
  f197 := Tryz.func143.trans (congrArg some (by kernel_rfl))
  f217 := Tryz.func173.trans (congrArg some (by kernel_rfl))
  f224 := Tryz.func176.trans (congrArg some (by kernel_rfl))
  f225 := Tryz.func177.trans (congrArg some (by kernel_rfl))
  f227 := Tryz.func112.trans (congrArg some (by kernel_rfl))
  f228 := Tryz.func142.trans (congrArg some (by kernel_rfl))
  f231 := Tryz.func110.trans (congrArg some (by kernel_rfl))
  f232 := Tryz.func111.trans (congrArg some (by kernel_rfl))
  f233 := Tryz.func113.trans (congrArg some (by kernel_rfl))
  f234 := Tryz.func114.trans (congrArg some (by kernel_rfl))
  f235 := Tryz.func115.trans (congrArg some (by kernel_rfl))
  f236 := Tryz.func116.trans (congrArg some (by kernel_rfl))
  f260 := Tryz.func162.trans (congrArg some (by kernel_rfl))
  f266 := Tryz.func181.trans (congrArg some (by kernel_rfl))
  f271 := Tryz.func145.trans (congrArg some (by kernel_rfl))
  t0 := Tryz.underlying0
  a0 := Tryz.isAgg0
  z0 := Tryz.sizeOf0
  v0 := Tryz.zeroValue0
  t3 := Tryz.underlying3
  a3 := Tryz.isAgg3
  z3 := Tryz.sizeOf3
  v3 := Tryz.zeroValue3
  t4 := Tryz.underlying4
  a4 := Tryz.isAgg4
  z4 := Tryz.sizeOf4
  v4 := Tryz.zeroValue4
  t5 := Tryz.underlying5
  a5 := Tryz.isAgg5
  z5 := Tryz.sizeOf5
  v5 := Tryz.zeroValue5
  t9 := Tryz.underlying9
  a9 := Tryz.isAgg9
  z9 := Tryz.sizeOf9
  v9 := Tryz.zeroValue9
  t21 := Tryz.underlying21
  a21 := Tryz.isAgg21
  z21 := Tryz.sizeOf21
  v21 := Tryz.zeroValue21
  t46 := Tryz.underlying220
  a46 := Tryz.isAgg220
  z46 := Tryz.sizeOf220
  v46 := Tryz.zeroValue220
  t105 := Tryz.underlying194
  a105 := Tryz.isAgg194
  z105 := Tryz.sizeOf194
  v105 := Tryz.zeroValue194
  t116 := Tryz.underlying171
  a116 := Tryz.isAgg171
  z116 := Tryz.sizeOf171
  t117 := Tryz.underlying172
  a117 := Tryz.isAgg172
  z117 := Tryz.sizeOf172
  v117 := Tryz.zeroValue172
  t119 := Tryz.underlying222
  a119 := Tryz.isAgg222
  z119 := Tryz.sizeOf222
  t124 := Tryz.underlying175
  a124 := Tryz.isAgg175
  z124 := Tryz.sizeOf175
  v124 := Tryz.zeroValue175
  t138 := Tryz.underlying224
  a138 := Tryz.isAgg224
  z138 := Tryz.sizeOf224
  v138 := Tryz.zeroValue224
  t139 := Tryz.underlying225
  a139 := Tryz.isAgg225
  z139 := Tryz.sizeOf225
  v139 := Tryz.zeroValue225
  g3 := by kernel_rfl
  g4 := by kernel_rfl }
def Tryz.lays137_ren : Go.Shelf.Ren := ⟨fun | 137 => 160 | 217 => 173 | 266 => 181 | n => n, fun | 9 => 9 | 5 => 5 | 3 => 3 | n => n, fun | n => n⟩
theorem Tryz.lays137 : Go.Proofs.Lays.n137 Tryz.prog Tryz.lays137_ren := {
  mixed := by kernel_rfl
  f137 := Tryz.func160.trans (congrArg some (by kernel_rfl))
  f217 := Tryz.func173.trans (congrArg some (by kernel_rfl))
  f266 := Tryz.func181.trans (congrArg some (by kernel_rfl))
  t3 := Tryz.underlying3
  a3 := Tryz.isAgg3
  z3 := Tryz.sizeOf3
  v3 := Tryz.zeroValue3
  t5 := Tryz.underlying5
  a5 := Tryz.isAgg5
  z5 := Tryz.sizeOf5
  v5 := Tryz.zeroValue5
  t9 := Tryz.underlying9
  a9 := Tryz.isAgg9
  z9 := Tryz.sizeOf9
  v9 := Tryz.zeroValue9 }
end Go.Proofs

/-
  strings.Trim at a set of ASCII bytes.
-/
namespace Go.Proofs.YthailknfgcegoaaGreatDoor
set_option linter.unusedSimpArgs false
set_option linter.unusedVariables false
open Go.RowKit Go.Shelf
def m101 (s cs : List UInt8) : Option (List UInt8) := if s.length ≤ 9223372036854775807 ∧ cs.length < 4294967281 ∧ cs.all (fun b => decide (b.toNat < 128)) = true then some (Lib.trimS s cs) else none
theorem s97 (s cs : List UInt8) : ∀ r, m101 s cs = some r → PureSpec Tryz.prog 81 [.str s, .str cs] (.str r) := by
  intro r hr
  unfold m101 at hr
  split at hr
  · rename_i h
    obtain ⟨h1, h2, h3⟩ := h
    cases hr
    refine ⟨by kernel_rfl, fun w M vs hM hv _ => ?_⟩
    simp only [RepL, Rep] at hv
    obtain ⟨u, us, rfl, rfl, u', us', rfl, rfl, rfl⟩ := hv
    have hcon := Any.strings_Trim_laid Tryz.lays160 (by kernel_rfl) ⟨s.toArray⟩ ⟨cs.toArray⟩ w (by simpa [ByteArray.size] using h1) (by simpa [ByteArray.size] using h2) (ascii_of_all (by simpa using h3))
    refine Calls.mono hcon ?_
    rintro e w' ⟨rfl, hB⟩
    exact ⟨_, rfl, by simp [Rep], hB⟩
  · cases hr
end Go.Proofs.YthailknfgcegoaaGreatDoor

/-
  strings.IndexByte and strings.ContainsAny (of ASCII).
-/
namespace Go.Proofs.YthailknfgcegoaaGreatDoor
set_option linter.unusedSimpArgs false
set_option linter.unusedVariables false
open Go.RowKit Go.Shelf
def m100 (s : List UInt8) (c : UInt8) : Option Int := some (Lib.indexByte s c)
theorem s96 (s : List UInt8) (c : UInt8) : ∀ r, m100 s c = some r → PureSpec Tryz.prog 160 [.str s, .int .u8 c.toNat] (.int .i64 r) := by
  intro r hr
  cases hr
  refine ⟨by kernel_rfl, fun w M vs hM hv _ => ?_⟩
  simp only [RepL, Rep] at hv
  obtain ⟨u, us, rfl, rfl, u', us', rfl, rfl, rfl⟩ := hv
  have hcon := Any.strings_IndexByte Tryz.lays137 ⟨s.toArray⟩ (c.toNat : Int) w
  refine Calls.mono hcon ?_
  rintro e w' ⟨rfl, rfl⟩
  refine ⟨_, rfl, ?_, Below.refl _ _⟩
  simp only [Rep]
  have : ((c.toNat : Int)).toNat.toUInt8 = c := by simp
  rw [this]
end Go.Proofs.YthailknfgcegoaaGreatDoor

/-
  Bodies of functions and what they compute, printed by programs of mine (wip/tool/gen.py, sc.py) out of the translation; the kernel holds each against the translation.
-/
namespace Go.Proofs.YthailknfgcegoaaGreatDoor
open Go.RowKit
set_option linter.unusedSimpArgs false
set_option linter.unusedVariables false
structure T1 where
  fRepeats : List (List (List UInt8))
  deriving DecidableEq
def r5 (x : T1) : List DV := [.slice (List.map (rowL rowS) x.fRepeats)]
attribute [push_cast] r5
theorem ft1 {d0 : DV} {v0 : List (List (List UInt8))} (h0 : d0 = .slice (List.map (rowL rowS) v0)) : [d0] = r5 ⟨v0⟩ := by unfold r5; simp only [h0, List.cons_append, List.nil_append, List.append_assoc, List.append_nil]
theorem ct1 {d0 : SV} {v0 : List (List (List UInt8))} (h0 : svle d0 (.d (.slice (List.map (rowL rowS) v0)))) : cellsle [d0] (dR (r5 ⟨v0⟩)) := by have h := (cellsle.consS h0 cellsle.nil); simpa only [r5, dR, List.map_append, List.map_cons, List.map_nil, List.cons_append, List.nil_append, List.append_assoc, List.append_nil] using h
theorem et1 {d0 : SV} {v0 : List (List (List UInt8))} (h0 : d0 = .d (.slice (List.map (rowL rowS) v0))) : [d0] = dR (r5 ⟨v0⟩) := by simp only [r5, dR, List.map_append, List.map_cons, List.map_nil, List.cons_append, List.nil_append, List.append_assoc, List.append_nil, h0]
structure T2 where
  fTag : List UInt8
  fElements : List T1
  deriving DecidableEq
def r6 (x : T2) : List DV := [.str x.fTag, .slice (List.map r5 x.fElements)]
attribute [push_cast] r6
theorem ft2 {d0 d1 : DV} {v0 : List UInt8} {v1 : List T1} (h0 : d0 = .str v0) (h1 : d1 = .slice (List.map r5 v1)) : [d0, d1] = r6 ⟨v0, v1⟩ := by unfold r6; simp only [h0, h1, List.cons_append, List.nil_append, List.append_assoc, List.append_nil]
theorem ct2 {d0 d1 : SV} {v0 : List UInt8} {v1 : List T1} (h0 : svle d0 (.d (.str v0))) (h1 : svle d1 (.d (.slice (List.map r5 v1)))) : cellsle [d0, d1] (dR (r6 ⟨v0, v1⟩)) := by have h := (cellsle.append (cellsle.consS h0 cellsle.nil) (cellsle.consS h1 cellsle.nil)); simpa only [r6, dR, List.map_append, List.map_cons, List.map_nil, List.cons_append, List.nil_append, List.append_assoc, List.append_nil] using h
theorem et2 {d0 d1 : SV} {v0 : List UInt8} {v1 : List T1} (h0 : d0 = .d (.str v0)) (h1 : d1 = .d (.slice (List.map r5 v1))) : [d0, d1] = dR (r6 ⟨v0, v1⟩) := by simp only [r6, dR, List.map_append, List.map_cons, List.map_nil, List.cons_append, List.nil_append, List.append_assoc, List.append_nil, h0, h1]
def c8 : SC :=
  (.seq (.reg [.r 11 (.bin .lss (.t 10) (.t 9))])
  (.seq (.cond (.t 11)
    .skip
    (.exit 0))
  (.seq (.block 1 (.seq (.reg [.r 12 (.mv (.t 10)),
       .r 7 (.mv (.t 12))])
    (.seq (.reg (.r 13 (.mv (.t 0)) :: .r 14 (.mv (.t 7)) :: .r 15 (.sidx (.t 13) (.t 14)) :: .r 16 (.mv (.t 1)) :: .r 17 (.bin .lss (.t 15) (.t 16)) :: .r 18 (.mv (.t 17)) :: gapp [19, 20, 21, 22, 23] 18 false (.r 19 (.mv (.t 0)) :: .r 20 (.mv (.t 7)) :: .r 21 (.sidx (.t 19) (.t 20)) :: .r 22 (.mv (.t 2)) :: .r 23 (.bin .gtr (.t 21) (.t 22)) :: []) (.r 24 (.pick (.t 18) (.c (.d (.bool true))) (.t 23)) :: [])))
    (.cond (.t 24)
      (.seq (.reg [.r 6 (.mv (.c (.d (.bool false))))])
      .ret)
      .skip))))
  (.reg [.r 25 (.bin .add (.t 10) (.c (.d (.int .i64 1)))),
     .r 10 (.mv (.t 25))]))))
def c9 : SC := .block 0 (.loop c8)
def c10 : SC :=
  (.seq (.reg [.r 6 (.mv (.c (.d (.bool false))))])
  (.seq (.seq (.reg [.r 8 (.mv (.t 0)),
     .r 9 (.lenT (.t 8)),
     .r 10 (.mv (.c (.d (.int .i64 0))))])
  c9)
  (.seq (.reg [.r 6 (.mv (.c (.d (.bool true))))])
  .ret)))
theorem k9 : fits Tryz.prog 136 Tryz.f136 c10 [.t 6] 3 = true := by kernel_rfl
def c11 : SC :=
  (.seq (.seq (.reg [.r 5 (.mv (.t 3)),
     .r 6 (.mv (.t 0)),
     .r 7 (.lenT (.t 6)),
     .r 8 (.bin .lss (.t 5) (.t 7))])
  (.cond (.t 8)
    .skip
    (.exit 0)))
  (.seq (.block 1 (.seq (.reg (.r 11 (.mv (.t 0)) :: .r 12 (.mv (.t 3)) :: .r 13 (.sidx (.t 11) (.t 12)) :: .r 14 (.bin .geq (.t 13) (.c (.d (.int .u8 65)))) :: .r 15 (.mv (.t 14)) :: gapp [16, 17, 18, 19] 15 true (.r 16 (.mv (.t 0)) :: .r 17 (.mv (.t 3)) :: .r 18 (.sidx (.t 16) (.t 17)) :: .r 19 (.bin .leq (.t 18) (.c (.d (.int .u8 90)))) :: []) (.r 20 (.pick (.t 15) (.t 19) (.c (.d (.bool false)))) :: .r 4 (.mv (.t 20)) :: [])))
    (.seq (.reg (.r 21 (.mv (.t 4)) :: .r 22 (.not (.t 21)) :: .r 23 (.mv (.t 22)) :: gapp [24, 25, 26, 27, 28, 29, 30, 31, 32, 33, 34, 35, 36, 37] 23 true (.r 24 (.mv (.t 3)) :: .r 25 (.bin .eql (.t 24) (.c (.d (.int .i64 0)))) :: .r 26 (.mv (.t 25)) :: gapp [27, 28, 29, 30] 26 false (.r 27 (.mv (.t 0)) :: .r 28 (.mv (.t 3)) :: .r 29 (.sidx (.t 27) (.t 28)) :: .r 30 (.bin .lss (.t 29) (.c (.d (.int .u8 48)))) :: []) (.r 31 (.pick (.t 26) (.c (.d (.bool true))) (.t 30)) :: .r 32 (.mv (.t 31)) :: gapp [33, 34, 35, 36] 32 false (.r 33 (.mv (.t 0)) :: .r 34 (.mv (.t 3)) :: .r 35 (.sidx (.t 33) (.t 34)) :: .r 36 (.bin .gtr (.t 35) (.c (.d (.int .u8 57)))) :: []) (.r 37 (.pick (.t 32) (.c (.d (.bool true))) (.t 36)) :: []))) (.r 38 (.pick (.t 23) (.t 37) (.c (.d (.bool false)))) :: [])))
    (.cond (.t 38)
      (.seq (.reg [.r 2 (.mv (.c (.d (.bool false))))])
      .ret)
      .skip))))
  (.reg [.r 9 (.mv (.t 3)),
     .r 10 (.bin .add (.t 9) (.c (.d (.int .i64 1)))),
     .r 3 (.mv (.t 10))])))
def c12 : SC := .block 0 (.loop c11)
def c13 : SC :=
  (.seq (.reg [.r 2 (.mv (.c (.d (.bool false))))])
  (.seq (.seq (.reg [.r 3 (.mv (.c (.d (.int .i64 0))))])
  c12)
  (.seq (.reg [.r 39 (.mv (.t 0)),
     .r 40 (.lenT (.t 39)),
     .r 41 (.bin .leq (.t 40) (.c (.d (.int .i64 6)))),
     .r 2 (.mv (.t 41))])
  .ret)))
theorem k10 : fits Tryz.prog 171 Tryz.f171 c13 [.t 2] 1 = true := by kernel_rfl
def c14 : SC :=
  (.seq (.seq (.reg [.r 7 (.mv (.t 3)),
     .r 8 (.mv (.t 0)),
     .r 9 (.lenT (.t 8)),
     .r 10 (.bin .lss (.t 7) (.t 9))])
  (.cond (.t 10)
    .skip
    (.exit 0)))
  (.seq (.block 1 (.seq (.reg (.r 13 (.mv (.t 0)) :: .r 14 (.mv (.t 3)) :: .r 15 (.sidx (.t 13) (.t 14)) :: .r 16 (.bin .lss (.t 15) (.c (.d (.int .u8 32)))) :: .r 17 (.mv (.t 16)) :: gapp [18, 19, 20, 21] 17 false (.r 18 (.mv (.t 0)) :: .r 19 (.mv (.t 3)) :: .r 20 (.sidx (.t 18) (.t 19)) :: .r 21 (.bin .gtr (.t 20) (.c (.d (.int .u8 126)))) :: []) (.r 22 (.pick (.t 17) (.c (.d (.bool true))) (.t 21)) :: [])))
    (.cond (.t 22)
      (.seq (.reg [.r 2 (.mv (.c (.d (.int .i64 3))))])
      .ret)
      .skip)))
  (.reg [.r 11 (.mv (.t 3)),
     .r 12 (.bin .add (.t 11) (.c (.d (.int .i64 1)))),
     .r 3 (.mv (.t 12))])))
def c15 : SC := .block 0 (.loop c14)
def c16 : SC :=
  (.seq (.reg [.r 2 (.mv (.c (.d (.int .i64 0))))])
  (.seq (.seq (.reg [.r 4 (.mv (.t 0)),
     .r 5 (.lenT (.t 4)),
     .r 6 (.bin .gtr (.t 5) (.c (.d (.int .i64 1000))))])
  (.cond (.t 6)
    (.seq (.reg [.r 2 (.mv (.c (.d (.int .i64 2))))])
    .ret)
    .skip))
  (.seq (.seq (.reg [.r 3 (.mv (.c (.d (.int .i64 0))))])
  c15)
  (.seq (.reg [.r 2 (.mv (.c (.d (.int .i64 0))))])
  .ret))))
theorem k11 : fits Tryz.prog 178 Tryz.f178 c16 [.t 2] 1 = true := by kernel_rfl
set_option maxRecDepth 100000 in
set_option maxHeartbeats 40000000 in
noncomputable def w3 : (∀ (x0 : List UInt8) (x1 : UInt8) (x2 : UInt8), {m : Option (Bool) // ∀ r, m = some r → PureSpec Tryz.prog 136 [.str x0, .int .u8 (x1).toNat, .int .u8 (x2).toNat] (.bool r)}) × (∀ (x0 : List UInt8), {m : Option (Bool) // ∀ r, m = some r → PureSpec Tryz.prog 171 [.str x0] (.bool r)}) × (∀ (x0 : List UInt8), {m : Option (Int) // ∀ r, m = some r → PureSpec Tryz.prog 178 [.str x0] (.int .i64 r)}) := by
  refine ⟨?g0, ?g1, ?g2⟩
  case' g0 => (intro x0 x1 x2; apply Subtype.mk; intro r hm; apply pure_walk Tryz.func136 k9; unfold c10)
  case' g1 => (intro x0; apply Subtype.mk; intro r hm; apply pure_walk Tryz.func171 k10; unfold c13)
  case' g2 => (intro x0; apply Subtype.mk; intro r hm; apply pure_walk Tryz.func178 k11; unfold c16)
  all_goals (repeat' (first | with_reducible refine W_seq ?_ | with_reducible refine W_reg ?_ | with_reducible refine W_block ?_ | with_reducible refine W_skip ?_ | with_reducible refine W_ret ?_ | with_reducible refine W_exit ?_ | with_reducible refine O_nil ?_ | with_reducible refine K_seq ?_ | with_reducible refine K_seqE ?_ | with_reducible refine K_seqR ?_ | with_reducible refine K_block ?_ | with_reducible refine K_blockR ?_ | with_reducible refine K_blockE ?_ | ((with_reducible apply K_blockN); decide) | ((with_reducible apply O_sidxr hm); (iterate 2 (simp only [push_cast, seval]; rfl)); intro e hm) | ((with_reducible apply O_r); (simp only [push_cast, seval]; rfl); (first | exact trivial | omega)) | ((with_reducible apply O_strr hm); (iterate 2 (simp only [push_cast, seval]; rfl)); intro hm) | ((with_reducible apply O_and hm); (simp only [push_cast, seval]; rfl); rfl; intro v hm; rotate_left; intro v g hm) | ((with_reducible apply O_or hm); (simp only [push_cast, seval]; rfl); rfl; intro v hm; rotate_left; intro v g hm) | ((with_reducible apply W_condT); (focus (simp only [push_cast, seval]; done))) | ((with_reducible apply W_condF); (focus (simp only [push_cast, seval]; done))) | ((with_reducible apply S_condB hm); (simp only [push_cast, seval]; rfl); intro hm; rotate_left; intro hm) | ((with_reducible apply K_endS hm); (focus (simp only [resOf, resL, RV.get, push_cast, seval]; rfl)); (focus ((repeat' (first | rfl | (with_reducible first | apply f_optN | apply f_optS | apply f_some | apply f_tup | apply f_agg | apply f_ptr | apply f_fn | apply dv_slice | apply sv_d | apply f_cons | apply fold_nil | apply fold_cons | apply fold_app | apply f_rowI | apply f_rowY | apply f_rowS | apply f_rowB | apply f_rowL) | (with_reducible apply f_byte; decide))); done))) | ((with_reducible apply K_bool hm); (simp only [push_cast, seval]; rfl)) | ((with_reducible apply K_leave hm); intro r hm) | ((with_reducible apply K_leaveR hm); intro r hm) | ((apply S_loopY (b := 0) (X := c9) (x := c8) rfl (fun (c : SV × SV × SV × SV) (s : Int) => st [(0, c.1), (1, c.2.1), (2, c.2.2.1), (9, c.2.2.2), (10, .d (.int .i64 s))] []) (c := (_, _, _, _)) (s0 := _) hm); (focus (first | (dsimp only; done) | (dsimp only; rfl) | rfl)); (with_reducible refine Then.mk ?_ ?_)) | ((apply S_loopY (b := 0) (X := c12) (x := c11) rfl (fun (c : SV) (s : Int) => st [(0, c), (3, .d (.int .i64 s))] []) (c := _) (s0 := _) hm); (focus (first | (dsimp only; done) | (dsimp only; rfl) | rfl)); (with_reducible refine Then.mk ?_ ?_)) | ((apply S_loopY (b := 0) (X := c15) (x := c14) rfl (fun (c : SV) (s : Int) => st [(0, c), (3, .d (.int .i64 s))] []) (c := _) (s0 := _) hm); (focus (first | (dsimp only; done) | (dsimp only; rfl) | rfl)); (with_reducible refine Then.mk ?_ ?_)) | ((apply K_next (s' := _) hm); (focus (first | (dsimp only; done) | (dsimp only; rfl) | rfl))) | ((apply K_brk (s' := _) hm); (focus (first | (dsimp only; done) | (dsimp only; rfl) | rfl))) | (((with_reducible apply K_brkN hm); (focus decide); intro r hm)) | (((with_reducible apply K_brkR hm); intro r hm)) | (((with_reducible apply LoopB.of); (focus (first | (dsimp only; done) | (dsimp only; rfl) | rfl)); (focus ((intro _; repeat' (first | with_reducible exact impC_end | with_reducible exact impC_endF | with_reducible refine impC_seq ?_ | with_reducible refine impC_block ?_ | ((with_reducible refine impC_rnd ?_); intro _) | ((with_reducible refine impC_brk ?_); intro _))))); (intro s o hm; first | unfold c8 | unfold c11 | unfold c14); rotate_left; intro s hm)) | (((apply imp_stT; (repeat' (first | with_reducible exact keepT_nil | with_reducible exact keepC_nil | with_reducible apply keepT_cons | with_reducible apply keepC_cons | ((with_reducible apply svle_eq); (focus (first | (simp only [push_cast, seval]; rfl) | rfl)); (focus ((repeat' (first | rfl | (with_reducible first | apply f_optN | apply f_optS | apply f_some | apply f_tup | apply f_agg | apply f_ptr | apply f_fn | apply dv_slice | apply sv_d | apply f_cons | apply fold_nil | apply fold_cons | apply fold_app | apply f_rowI | apply f_rowY | apply f_rowS | apply f_rowB | apply f_rowL) | (with_reducible apply f_byte; decide))); done))) | ((with_reducible apply svle_td); (focus (first | (simp only [push_cast, seval]; rfl) | rfl)); (focus (first | (simp only [push_cast, seval]; rfl) | rfl)); (focus ((repeat' (first | rfl | (with_reducible first | apply f_optN | apply f_optS | apply f_some | apply f_tup | apply f_agg | apply f_ptr | apply f_fn | apply dv_slice | apply sv_d | apply f_cons | apply fold_nil | apply fold_cons | apply fold_app | apply f_rowI | apply f_rowY | apply f_rowS | apply f_rowB | apply f_rowL) | (with_reducible apply f_byte; decide))); done))) | ((with_reducible apply chle_eq); (focus (first | (simp only [push_cast, seval]; rfl) | rfl)); (first | with_reducible exact chle_rfl rfl | with_reducible exact chle_map0 | with_reducible apply chle_vec | with_reducible apply chle_box)) | (with_reducible first | apply r_shS | apply r_shI | apply r_rflO | apply r_oneO | apply r_appO | apply r_nilO | apply c_ownN | apply c_ownL | apply vc_rfl | apply vc_nil | apply vc_cons | apply r_rfl | apply r_rows | apply r_nil | apply r_app | apply r_cons | apply c_rowI | apply c_rowY | apply c_rowS | apply c_rowB | apply c_rowL))); done)))))
noncomputable def m7 (x0 : List UInt8) (x1 : UInt8) (x2 : UInt8) : Option (Bool) := (w3.1 x0 x1 x2).1
theorem s3 (x0 : List UInt8) (x1 : UInt8) (x2 : UInt8) : ∀ r, m7 x0 x1 x2 = some r → PureSpec Tryz.prog 136 [.str x0, .int .u8 (x1).toNat, .int .u8 (x2).toNat] (.bool r) := (w3.1 x0 x1 x2).2
noncomputable def m8 (x0 : List UInt8) : Option (Bool) := (w3.2.1 x0).1
theorem s4 (x0 : List UInt8) : ∀ r, m8 x0 = some r → PureSpec Tryz.prog 171 [.str x0] (.bool r) := (w3.2.1 x0).2
noncomputable def m9 (x0 : List UInt8) : Option (Int) := (w3.2.2 x0).1
theorem s5 (x0 : List UInt8) : ∀ r, m9 x0 = some r → PureSpec Tryz.prog 178 [.str x0] (.int .i64 r) := (w3.2.2 x0).2
def c17 : SC :=
  (.seq (.reg [.r 2 (.mv (.c (.d (.bool false))))])
  (.seq (.reg [.r 3 (.mv (.t 0)),
     .c 4 (.f 81) [.t 3, .c (.d (.str [65, 66, 67, 68, 69, 70, 71, 72, 73, 74, 75, 76, 77, 78, 79, 80, 81, 82, 83, 84, 85, 86, 87, 88, 89, 90, 48, 49, 50, 51, 52, 53, 54, 55, 56, 57]))],
     .r 5 (.bin .eql (.t 4) (.c (.d (.str [])))),
     .r 2 (.mv (.t 5))])
  .ret))
theorem k12 : fits Tryz.prog 135 Tryz.f135 c17 [.t 2] 1 = true := by kernel_rfl
def c18 : SC :=
  (.seq (.reg [.r 2 (.mv (.c (.d (.bool false))))])
  (.seq (.reg (.r 3 (.mv (.t 0)) :: .r 4 (.lenT (.t 3)) :: .r 5 (.bin .leq (.t 4) (.c (.d (.int .i64 1000)))) :: .r 6 (.mv (.t 5)) :: gapp [7, 8] 6 true (.r 7 (.mv (.t 0)) :: .c 8 (.f 136) [.t 7, .c (.d (.int .u8 32)), .c (.d (.int .u8 126))] :: []) (.r 9 (.pick (.t 6) (.t 8) (.c (.d (.bool false)))) :: .r 2 (.mv (.t 9)) :: [])))
  .ret))
theorem k13 : fits Tryz.prog 174 Tryz.f174 c18 [.t 2] 1 = true := by kernel_rfl
def c19 : SC :=
  (.seq (.reg [.r 2 (.mv (.c (.d (.bool false))))])
  (.seq (.reg (.r 3 (.mv (.t 0)) :: .r 4 (.lenT (.t 3)) :: .r 5 (.bin .geq (.t 4) (.c (.d (.int .i64 2)))) :: .r 6 (.mv (.t 5)) :: gapp [7, 8] 6 true (.r 7 (.mv (.t 0)) :: .c 8 (.f 171) [.t 7] :: []) (.r 9 (.pick (.t 6) (.t 8) (.c (.d (.bool false)))) :: .r 2 (.mv (.t 9)) :: [])))
  .ret))
theorem k14 : fits Tryz.prog 158 Tryz.f158 c19 [.t 2] 1 = true := by kernel_rfl
def c20 : SC :=
  (.seq (.seq (.reg [.r 35 (.mv (.t 4)),
     .r 36 (.fld 0 (.t 1)),
     .o 37 (.ld1 (.t 36)),
     .r 38 (.mv (.t 3)),
     .r 39 (.idx 1 (.t 37) (.t 38)),
     .o 40 (.ld1 (.t 39)),
     .r 41 (.len (.t 40)),
     .r 42 (.bin .lss (.t 35) (.t 41))])
  (.cond (.t 42)
    .skip
    (.exit 2)))
  (.seq (.block 3 (.seq (.reg [.r 45 (.fld 0 (.t 1)),
       .o 46 (.ld1 (.t 45)),
       .r 47 (.mv (.t 3)),
       .r 48 (.idx 1 (.t 46) (.t 47)),
       .o 49 (.ld1 (.t 48)),
       .r 50 (.mv (.t 4)),
       .r 51 (.idx 1 (.t 49) (.t 50)),
       .o 52 (.ld1 (.t 51)),
       .c 53 (.f 178) [.t 52],
       .r 5 (.mv (.t 53))])
    (.seq (.reg [.r 54 (.mv (.t 5)),
       .r 55 (.bin .neq (.t 54) (.c (.d (.int .i64 0))))])
    (.cond (.t 55)
      (.seq (.reg [.r 56 (.mv (.t 5)),
         .r 2 (.mv (.t 56))])
      .ret)
      .skip))))
  (.reg [.r 43 (.mv (.t 4)),
     .r 44 (.bin .add (.t 43) (.c (.d (.int .i64 1)))),
     .r 4 (.mv (.t 44))])))
def c21 : SC := .block 2 (.loop c20)
def c22 : SC :=
  (.seq (.seq (.reg [.r 14 (.mv (.t 3)),
     .r 15 (.fld 0 (.t 1)),
     .o 16 (.ld1 (.t 15)),
     .r 17 (.len (.t 16)),
     .r 18 (.bin .lss (.t 14) (.t 17))])
  (.cond (.t 18)
    .skip
    (.exit 0)))
  (.seq (.block 1 (.seq (.seq (.reg [.r 21 (.fld 0 (.t 1)),
       .o 22 (.ld1 (.t 21)),
       .r 23 (.mv (.t 3)),
       .r 24 (.idx 1 (.t 22) (.t 23)),
       .o 25 (.ld1 (.t 24)),
       .r 26 (.len (.t 25)),
       .r 27 (.bin .eql (.t 26) (.c (.d (.int .i64 0))))])
    (.cond (.t 27)
      (.seq (.reg [.r 2 (.mv (.c (.d (.int .i64 9))))])
      .ret)
      .skip))
    (.seq (.seq (.reg [.r 28 (.fld 0 (.t 1)),
       .o 29 (.ld1 (.t 28)),
       .r 30 (.mv (.t 3)),
       .r 31 (.idx 1 (.t 29) (.t 30)),
       .o 32 (.ld1 (.t 31)),
       .r 33 (.len (.t 32)),
       .r 34 (.bin .gtr (.t 33) (.c (.d (.int .i64 20))))])
    (.cond (.t 34)
      (.seq (.reg [.r 2 (.mv (.c (.d (.int .i64 2))))])
      .ret)
      .skip))
    (.seq (.reg [.r 4 (.mv (.c (.d (.int .i64 0))))])
    c21))))
  (.reg [.r 19 (.mv (.t 3)),
     .r 20 (.bin .add (.t 19) (.c (.d (.int .i64 1)))),
     .r 3 (.mv (.t 20))])))
def c23 : SC := .block 0 (.loop c22)
def c24 : SC :=
  (.seq (.reg [.r 1 (.boxI (.t 0)),
     .r 2 (.mv (.c (.d (.int .i64 0))))])
  (.seq (.seq (.reg [.r 6 (.fld 0 (.t 1)),
     .o 7 (.ld1 (.t 6)),
     .r 8 (.len (.t 7)),
     .r 9 (.bin .eql (.t 8) (.c (.d (.int .i64 0))))])
  (.cond (.t 9)
    (.seq (.reg [.r 2 (.mv (.c (.d (.int .i64 9))))])
    .ret)
    .skip))
  (.seq (.seq (.reg [.r 10 (.fld 0 (.t 1)),
     .o 11 (.ld1 (.t 10)),
     .r 12 (.len (.t 11)),
     .r 13 (.bin .gtr (.t 12) (.c (.d (.int .i64 20))))])
  (.cond (.t 13)
    (.seq (.reg [.r 2 (.mv (.c (.d (.int .i64 2))))])
    .ret)
    .skip))
  (.seq (.seq (.reg [.r 3 (.mv (.c (.d (.int .i64 0))))])
  c23)
  (.seq (.reg [.r 2 (.mv (.c (.d (.int .i64 0))))])
  .ret)))))
theorem k15 : fits Tryz.prog 165 Tryz.f165 c24 [.t 2] 1 = true := by kernel_rfl
set_option maxRecDepth 100000 in
set_option maxHeartbeats 40000000 in
noncomputable def w4 : (∀ (x0 : List UInt8), {m : Option (Bool) // ∀ r, m = some r → PureSpec Tryz.prog 135 [.str x0] (.bool r)}) × (∀ (x0 : List UInt8), {m : Option (Bool) // ∀ r, m = some r → PureSpec Tryz.prog 174 [.str x0] (.bool r)}) × (∀ (x0 : List UInt8), {m : Option (Bool) // ∀ r, m = some r → PureSpec Tryz.prog 158 [.str x0] (.bool r)}) × (∀ (x0 : T1), {m : Option (Int) // ∀ r, m = some r → PureSpec Tryz.prog 165 [.agg (r5 x0)] (.int .i64 r)}) := by
  refine ⟨?g0, ?g1, ?g2, ?g3⟩
  case' g0 => (intro x0; apply Subtype.mk; intro r hm; apply pure_walk Tryz.func135 k12; unfold c17)
  case' g1 => (intro x0; apply Subtype.mk; intro r hm; apply pure_walk Tryz.func174 k13; unfold c18)
  case' g2 => (intro x0; apply Subtype.mk; intro r hm; apply pure_walk Tryz.func158 k14; unfold c19)
  case' g3 => (intro x0; apply Subtype.mk; intro r hm; apply pure_walk Tryz.func165 k15; unfold c24)
  all_goals (repeat' (first | with_reducible refine W_seq ?_ | with_reducible refine W_reg ?_ | with_reducible refine W_block ?_ | with_reducible refine W_skip ?_ | with_reducible refine W_ret ?_ | with_reducible refine W_exit ?_ | with_reducible refine O_nil ?_ | with_reducible refine K_seq ?_ | with_reducible refine K_seqE ?_ | with_reducible refine K_seqR ?_ | with_reducible refine K_block ?_ | with_reducible refine K_blockR ?_ | with_reducible refine K_blockE ?_ | ((with_reducible apply K_blockN); decide) | with_reducible refine O_o2r ?_ | ((with_reducible apply O_idxr hm); (iterate 2 (simp only [push_cast, seval]; rfl)); (intro _; rfl); intro e hm) | ((with_reducible apply O_idxVr hm); (iterate 3 (simp only [push_cast, seval]; rfl)); intro e hm) | ((with_reducible apply O_r); (simp only [push_cast, seval]; rfl); (first | exact trivial | omega)) | ((with_reducible apply O_ldV1r hm); (iterate 2 (simp only [push_cast, seval]; rfl)); (intro _; rfl); intro e hm) | ((with_reducible apply O_strr hm); (iterate 2 (simp only [push_cast, seval]; rfl)); intro hm) | ((with_reducible apply O_and hm); (simp only [push_cast, seval]; rfl); rfl; intro v hm; rotate_left; intro v g hm) | ((with_reducible apply W_condT); (focus (simp only [push_cast, seval]; done))) | ((with_reducible apply W_condF); (focus (simp only [push_cast, seval]; done))) | ((with_reducible apply O_cF hm); (simp only [push_cast, seval]; rfl); (first | apply s97 _ _ | apply s3 _ _ _ | apply s4 _ | apply s5 _); (any_goals ((repeat' (first | rfl | (with_reducible first | apply ft1 | apply f_optN | apply f_optS | apply f_some | apply f_tup | apply f_agg | apply f_ptr | apply f_fn | apply dv_slice | apply sv_d | apply f_cons | apply fold_nil | apply fold_cons | apply fold_app | apply f_rowI | apply f_rowY | apply f_rowS | apply f_rowB | apply f_rowL) | (with_reducible apply f_byte; decide))); done)); intro x hm) | ((with_reducible apply S_condB hm); (simp only [push_cast, seval]; rfl); intro hm; rotate_left; intro hm) | ((with_reducible apply K_endS hm); (focus (simp only [resOf, resL, RV.get, push_cast, seval]; rfl)); (focus ((repeat' (first | rfl | (with_reducible first | apply ft1 | apply f_optN | apply f_optS | apply f_some | apply f_tup | apply f_agg | apply f_ptr | apply f_fn | apply dv_slice | apply sv_d | apply f_cons | apply fold_nil | apply fold_cons | apply fold_app | apply f_rowI | apply f_rowY | apply f_rowS | apply f_rowB | apply f_rowL) | (with_reducible apply f_byte; decide))); done))) | ((with_reducible apply K_bool hm); (simp only [push_cast, seval]; rfl)) | ((with_reducible apply K_leave hm); intro r hm) | ((with_reducible apply K_leaveR hm); intro r hm) | ((apply S_loopY (b := 2) (X := c21) (x := c20) rfl (fun (c : SV × SV) (s : Int) => st [(1, c.1), (3, c.2), (4, .d (.int .i64 s))] []) (c := (_, _)) (s0 := _) hm); (focus (first | (dsimp only; done) | (dsimp only; rfl) | rfl)); (with_reducible refine Then.mk ?_ ?_)) | ((apply S_loopY (b := 0) (X := c23) (x := c22) rfl (fun (c : SV) (s : Int) => st [(1, c), (3, .d (.int .i64 s))] []) (c := _) (s0 := _) hm); (focus (first | (dsimp only; done) | (dsimp only; rfl) | rfl)); (with_reducible refine Then.mk ?_ ?_)) | ((apply K_next (s' := _) hm); (focus (first | (dsimp only; done) | (dsimp only; rfl) | rfl))) | ((apply K_brk (s' := _) hm); (focus (first | (dsimp only; done) | (dsimp only; rfl) | rfl))) | (((with_reducible apply K_brkN hm); (focus decide); intro r hm)) | (((with_reducible apply K_brkR hm); intro r hm)) | (((with_reducible apply LoopB.of); (focus (first | (dsimp only; done) | (dsimp only; rfl) | rfl)); (focus ((intro _; repeat' (first | with_reducible exact impC_end | with_reducible exact impC_endF | with_reducible refine impC_seq ?_ | with_reducible refine impC_block ?_ | ((with_reducible refine impC_rnd ?_); intro _) | ((with_reducible refine impC_brk ?_); intro _))))); (intro s o hm; first | unfold c20 | unfold c22); rotate_left; intro s hm)) | (((apply imp_stT; (repeat' (first | with_reducible exact keepT_nil | with_reducible exact keepC_nil | with_reducible apply keepT_cons | with_reducible apply keepC_cons | ((with_reducible apply svle_eq); (focus (first | (simp only [push_cast, seval]; rfl) | rfl)); (focus ((repeat' (first | rfl | (with_reducible first | apply ft1 | apply f_optN | apply f_optS | apply f_some | apply f_tup | apply f_agg | apply f_ptr | apply f_fn | apply dv_slice | apply sv_d | apply f_cons | apply fold_nil | apply fold_cons | apply fold_app | apply f_rowI | apply f_rowY | apply f_rowS | apply f_rowB | apply f_rowL) | (with_reducible apply f_byte; decide))); done))) | ((with_reducible apply svle_td); (focus (first | (simp only [push_cast, seval]; rfl) | rfl)); (focus (first | (simp only [push_cast, seval]; rfl) | rfl)); (focus ((repeat' (first | rfl | (with_reducible first | apply ft1 | apply f_optN | apply f_optS | apply f_some | apply f_tup | apply f_agg | apply f_ptr | apply f_fn | apply dv_slice | apply sv_d | apply f_cons | apply fold_nil | apply fold_cons | apply fold_app | apply f_rowI | apply f_rowY | apply f_rowS | apply f_rowB | apply f_rowL) | (with_reducible apply f_byte; decide))); done))) | ((with_reducible apply chle_eq); (focus (first | (simp only [push_cast, seval]; rfl) | rfl)); (first | with_reducible exact chle_rfl rfl | with_reducible exact chle_map0 | with_reducible apply chle_vec | with_reducible apply chle_box)) | (with_reducible first | apply ct1 | apply r_shS | apply r_shI | apply r_rflO | apply r_oneO | apply r_appO | apply r_nilO | apply c_ownN | apply c_ownL | apply vc_rfl | apply vc_nil | apply vc_cons | apply r_rfl | apply r_rows | apply r_nil | apply r_app | apply r_cons | apply c_rowI | apply c_rowY | apply c_rowS | apply c_rowB | apply c_rowL))); done)))))
noncomputable def m10 (x0 : List UInt8) : Option (Bool) := (w4.1 x0).1
theorem s6 (x0 : List UInt8) : ∀ r, m10 x0 = some r → PureSpec Tryz.prog 135 [.str x0] (.bool r) := (w4.1 x0).2
noncomputable def m11 (x0 : List UInt8) : Option (Bool) := (w4.2.1 x0).1
theorem s7 (x0 : List UInt8) : ∀ r, m11 x0 = some r → PureSpec Tryz.prog 174 [.str x0] (.bool r) := (w4.2.1 x0).2
noncomputable def m12 (x0 : List UInt8) : Option (Bool) := (w4.2.2.1 x0).1
theorem s8 (x0 : List UInt8) : ∀ r, m12 x0 = some r → PureSpec Tryz.prog 158 [.str x0] (.bool r) := (w4.2.2.1 x0).2
noncomputable def m13 (x0 : T1) : Option (Int) := (w4.2.2.2 x0).1
theorem s9 (x0 : T1) : ∀ r, m13 x0 = some r → PureSpec Tryz.prog 165 [.agg (r5 x0)] (.int .i64 r) := (w4.2.2.2 x0).2
def c25 : SC :=
  (.seq (.reg [.r 2 (.mv (.c (.d (.bool false))))])
  (.seq (.reg (.r 3 (.mv (.t 0)) :: .r 4 (.lenT (.t 3)) :: .r 5 (.bin .geq (.t 4) (.c (.d (.int .i64 2)))) :: .r 6 (.mv (.t 5)) :: gapp [7, 8, 9] 6 true (.r 7 (.mv (.t 0)) :: .r 8 (.lenT (.t 7)) :: .r 9 (.bin .leq (.t 8) (.c (.d (.int .i64 6)))) :: []) (.r 10 (.pick (.t 6) (.t 9) (.c (.d (.bool false)))) :: .r 11 (.mv (.t 10)) :: gapp [12, 13, 14, 15] 11 true (.r 12 (.mv (.t 0)) :: .r 13 (.sidx (.t 12) (.c (.d (.int .i64 0)))) :: .c 14 (.f 160) [.c (.d (.str [65, 66, 67, 68, 69, 70, 71, 72, 73, 74, 75, 76, 77, 78, 79, 80, 81, 82, 83, 84, 85, 86, 87, 88, 89, 90])), .t 13] :: .r 15 (.bin .geq (.t 14) (.c (.d (.int .i64 0)))) :: []) (.r 16 (.pick (.t 11) (.t 15) (.c (.d (.bool false)))) :: .r 17 (.mv (.t 16)) :: gapp [18, 19] 17 true (.r 18 (.mv (.t 0)) :: .c 19 (.f 135) [.t 18] :: []) (.r 20 (.pick (.t 17) (.t 19) (.c (.d (.bool false)))) :: .r 2 (.mv (.t 20)) :: [])))))
  .ret))
theorem k16 : fits Tryz.prog 139 Tryz.f139 c25 [.t 2] 1 = true := by kernel_rfl
def c26 : SC :=
  (.seq (.reg [.r 2 (.mv (.c (.d (.int .i64 0))))])
  (.seq (.seq (.reg [.r 3 (.mv (.t 0)),
     .r 4 (.lenT (.t 3)),
     .r 5 (.bin .gtr (.t 4) (.c (.d (.int .i64 1000))))])
  (.cond (.t 5)
    (.seq (.reg [.r 2 (.mv (.c (.d (.int .i64 2))))])
    .ret)
    .skip))
  (.seq (.seq (.reg [.r 6 (.mv (.t 0)),
     .c 7 (.f 174) [.t 6],
     .r 8 (.not (.t 7))])
  (.cond (.t 8)
    (.seq (.reg [.r 2 (.mv (.c (.d (.int .i64 3))))])
    .ret)
    .skip))
  (.seq (.reg [.r 2 (.mv (.c (.d (.int .i64 0))))])
  .ret))))
theorem k17 : fits Tryz.prog 161 Tryz.f161 c26 [.t 2] 1 = true := by kernel_rfl
def c27 : SC :=
  (.seq (.seq (.reg [.r 13 (.mv (.t 3)),
     .r 14 (.fld 1 (.t 1)),
     .o 15 (.ld1 (.t 14)),
     .r 16 (.len (.t 15)),
     .r 17 (.bin .lss (.t 13) (.t 16))])
  (.cond (.t 17)
    .skip
    (.exit 0)))
  (.seq (.block 1 (.seq (.reg [.r 20 (.fld 1 (.t 1)),
       .o 21 (.ld1 (.t 20)),
       .r 22 (.mv (.t 3)),
       .r 23 (.idx 1 (.t 21) (.t 22)),
       .o 24 (.ldA 1 (.t 23)),
       .c 25 (.f 165) [.t 24],
       .r 4 (.mv (.t 25))])
    (.seq (.reg [.r 26 (.mv (.t 4)),
       .r 27 (.bin .neq (.t 26) (.c (.d (.int .i64 0))))])
    (.cond (.t 27)
      (.seq (.reg [.r 28 (.mv (.t 4)),
         .r 2 (.mv (.t 28))])
      .ret)
      .skip))))
  (.reg [.r 18 (.mv (.t 3)),
     .r 19 (.bin .add (.t 18) (.c (.d (.int .i64 1)))),
     .r 3 (.mv (.t 19))])))
def c28 : SC := .block 0 (.loop c27)
def c29 : SC :=
  (.seq (.reg [.r 1 (.boxI (.t 0)),
     .r 2 (.mv (.c (.d (.int .i64 0))))])
  (.seq (.seq (.reg [.r 5 (.fld 0 (.t 1)),
     .o 6 (.ld1 (.t 5)),
     .c 7 (.f 158) [.t 6],
     .r 8 (.not (.t 7))])
  (.cond (.t 8)
    (.seq (.reg [.r 2 (.mv (.c (.d (.int .i64 5))))])
    .ret)
    .skip))
  (.seq (.seq (.reg [.r 9 (.fld 1 (.t 1)),
     .o 10 (.ld1 (.t 9)),
     .r 11 (.len (.t 10)),
     .r 12 (.bin .gtr (.t 11) (.c (.d (.int .i64 50))))])
  (.cond (.t 12)
    (.seq (.reg [.r 2 (.mv (.c (.d (.int .i64 2))))])
    .ret)
    .skip))
  (.seq (.seq (.reg [.r 3 (.mv (.c (.d (.int .i64 0))))])
  c28)
  (.seq (.reg [.r 2 (.mv (.c (.d (.int .i64 0))))])
  .ret)))))
theorem k18 : fits Tryz.prog 148 Tryz.f148 c29 [.t 2] 1 = true := by kernel_rfl
set_option maxRecDepth 100000 in
set_option maxHeartbeats 40000000 in
noncomputable def w5 : (∀ (x0 : List UInt8), {m : Option (Bool) // ∀ r, m = some r → PureSpec Tryz.prog 139 [.str x0] (.bool r)}) × (∀ (x0 : List UInt8), {m : Option (Int) // ∀ r, m = some r → PureSpec Tryz.prog 161 [.str x0] (.int .i64 r)}) × (∀ (x0 : T2), {m : Option (Int) // ∀ r, m = some r → PureSpec Tryz.prog 148 [.agg (r6 x0)] (.int .i64 r)}) := by
  refine ⟨?g0, ?g1, ?g2⟩
  case' g0 => (intro x0; apply Subtype.mk; intro r hm; apply pure_walk Tryz.func139 k16; unfold c25)
  case' g1 => (intro x0; apply Subtype.mk; intro r hm; apply pure_walk Tryz.func161 k17; unfold c26)
  case' g2 => (intro x0; apply Subtype.mk; intro r hm; apply pure_walk Tryz.func148 k18; unfold c29)
  all_goals (repeat' (first | with_reducible refine W_seq ?_ | with_reducible refine W_reg ?_ | with_reducible refine W_block ?_ | with_reducible refine W_skip ?_ | with_reducible refine W_ret ?_ | with_reducible refine W_exit ?_ | with_reducible refine O_nil ?_ | with_reducible refine K_seq ?_ | with_reducible refine K_seqE ?_ | with_reducible refine K_seqR ?_ | with_reducible refine K_block ?_ | with_reducible refine K_blockR ?_ | with_reducible refine K_blockE ?_ | ((with_reducible apply K_blockN); decide) | with_reducible refine O_o2r ?_ | ((with_reducible apply O_idxr hm); (iterate 2 (simp only [push_cast, seval]; rfl)); (intro _; rfl); intro e hm) | ((with_reducible apply O_idxVr hm); (iterate 3 (simp only [push_cast, seval]; rfl)); intro e hm) | ((with_reducible apply O_sidxr hm); (iterate 2 (simp only [push_cast, seval]; rfl)); intro e hm) | ((with_reducible apply O_r); (simp only [push_cast, seval]; rfl); (first | exact trivial | omega)) | ((with_reducible apply O_ldV1r hm); (iterate 2 (simp only [push_cast, seval]; rfl)); (intro _; rfl); intro e hm) | ((with_reducible apply O_strr hm); (iterate 2 (simp only [push_cast, seval]; rfl)); intro hm) | ((with_reducible apply O_and hm); (simp only [push_cast, seval]; rfl); rfl; intro v hm; rotate_left; intro v g hm) | ((with_reducible apply W_condT); (focus (simp only [push_cast, seval]; done))) | ((with_reducible apply W_condF); (focus (simp only [push_cast, seval]; done))) | ((with_reducible apply O_cF hm); (simp only [push_cast, seval]; rfl); (first | apply s96 _ _ | apply s6 _ | apply s7 _ | apply s8 _ | apply s9 _); (any_goals ((repeat' (first | rfl | (with_reducible first | apply ft1 | apply ft2 | apply f_optN | apply f_optS | apply f_some | apply f_tup | apply f_agg | apply f_ptr | apply f_fn | apply dv_slice | apply sv_d | apply f_cons | apply fold_nil | apply fold_cons | apply fold_app | apply f_rowI | apply f_rowY | apply f_rowS | apply f_rowB | apply f_rowL) | (with_reducible apply f_byte; decide))); done)); intro x hm) | ((with_reducible apply S_condB hm); (simp only [push_cast, seval]; rfl); intro hm; rotate_left; intro hm) | ((with_reducible apply K_endS hm); (focus (simp only [resOf, resL, RV.get, push_cast, seval]; rfl)); (focus ((repeat' (first | rfl | (with_reducible first | apply ft1 | apply ft2 | apply f_optN | apply f_optS | apply f_some | apply f_tup | apply f_agg | apply f_ptr | apply f_fn | apply dv_slice | apply sv_d | apply f_cons | apply fold_nil | apply fold_cons | apply fold_app | apply f_rowI | apply f_rowY | apply f_rowS | apply f_rowB | apply f_rowL) | (with_reducible apply f_byte; decide))); done))) | ((with_reducible apply K_bool hm); (simp only [push_cast, seval]; rfl)) | ((with_reducible apply K_leave hm); intro r hm) | ((with_reducible apply K_leaveR hm); intro r hm) | ((apply S_loopY (b := 0) (X := c28) (x := c27) rfl (fun (c : SV) (s : Int) => st [(1, c), (3, .d (.int .i64 s))] []) (c := _) (s0 := _) hm); (focus (first | (dsimp only; done) | (dsimp only; rfl) | rfl)); (with_reducible refine Then.mk ?_ ?_)) | ((apply K_next (s' := _) hm); (focus (first | (dsimp only; done) | (dsimp only; rfl) | rfl))) | ((apply K_brk (s' := _) hm); (focus (first | (dsimp only; done) | (dsimp only; rfl) | rfl))) | (((with_reducible apply K_brkN hm); (focus decide); intro r hm)) | (((with_reducible apply K_brkR hm); intro r hm)) | (((with_reducible apply LoopB.of); (focus (first | (dsimp only; done) | (dsimp only; rfl) | rfl)); (focus ((intro _; repeat' (first | with_reducible exact impC_end | with_reducible exact impC_endF | with_reducible refine impC_seq ?_ | with_reducible refine impC_block ?_ | ((with_reducible refine impC_rnd ?_); intro _) | ((with_reducible refine impC_brk ?_); intro _))))); (intro s o hm; first | unfold c27); rotate_left; intro s hm)) | (((apply imp_stT; (repeat' (first | with_reducible exact keepT_nil | with_reducible exact keepC_nil | with_reducible apply keepT_cons | with_reducible apply keepC_cons | ((with_reducible apply svle_eq); (focus (first | (simp only [push_cast, seval]; rfl) | rfl)); (focus ((repeat' (first | rfl | (with_reducible first | apply ft1 | apply ft2 | apply f_optN | apply f_optS | apply f_some | apply f_tup | apply f_agg | apply f_ptr | apply f_fn | apply dv_slice | apply sv_d | apply f_cons | apply fold_nil | apply fold_cons | apply fold_app | apply f_rowI | apply f_rowY | apply f_rowS | apply f_rowB | apply f_rowL) | (with_reducible apply f_byte; decide))); done))) | ((with_reducible apply svle_td); (focus (first | (simp only [push_cast, seval]; rfl) | rfl)); (focus (first | (simp only [push_cast, seval]; rfl) | rfl)); (focus ((repeat' (first | rfl | (with_reducible first | apply ft1 | apply ft2 | apply f_optN | apply f_optS | apply f_some | apply f_tup | apply f_agg | apply f_ptr | apply f_fn | apply dv_slice | apply sv_d | apply f_cons | apply fold_nil | apply fold_cons | apply fold_app | apply f_rowI | apply f_rowY | apply f_rowS | apply f_rowB | apply f_rowL) | (with_reducible apply f_byte; decide))); done))) | ((with_reducible apply chle_eq); (focus (first | (simp only [push_cast, seval]; rfl) | rfl)); (first | with_reducible exact chle_rfl rfl | with_reducible exact chle_map0 | with_reducible apply chle_vec | with_reducible apply chle_box)) | (with_reducible first | apply ct1 | apply ct2 | apply r_shS | apply r_shI | apply r_rflO | apply r_oneO | apply r_appO | apply r_nilO | apply c_ownN | apply c_ownL | apply vc_rfl | apply vc_nil | apply vc_cons | apply r_rfl | apply r_rows | apply r_nil | apply r_app | apply r_cons | apply c_rowI | apply c_rowY | apply c_rowS | apply c_rowB | apply c_rowL))); done)))))
noncomputable def m14 (x0 : List UInt8) : Option (Bool) := (w5.1 x0).1
theorem s10 (x0 : List UInt8) : ∀ r, m14 x0 = some r → PureSpec Tryz.prog 139 [.str x0] (.bool r) := (w5.1 x0).2
noncomputable def m15 (x0 : List UInt8) : Option (Int) := (w5.2.1 x0).1
theorem s11 (x0 : List UInt8) : ∀ r, m15 x0 = some r → PureSpec Tryz.prog 161 [.str x0] (.int .i64 r) := (w5.2.1 x0).2
noncomputable def m16 (x0 : T2) : Option (Int) := (w5.2.2 x0).1
theorem s12 (x0 : T2) : ∀ r, m16 x0 = some r → PureSpec Tryz.prog 148 [.agg (r6 x0)] (.int .i64 r) := (w5.2.2 x0).2
def c30 : SC :=
  (.seq (.reg [.r 32 (.bin .lss (.t 31) (.t 30))])
  (.seq (.cond (.t 32)
    .skip
    (.exit 2))
  (.seq (.block 3 (.seq (.reg [.r 33 (.idx 1 (.t 29) (.t 31)),
       .o 34 (.ld1 (.t 33)),
       .r 6 (.mv (.t 34))])
    (.seq (.reg [.r 35 (.mv (.t 6)),
       .c 36 (.f 161) [.t 35],
       .r 7 (.mv (.t 36))])
    (.seq (.reg [.r 37 (.mv (.t 7)),
       .r 38 (.bin .neq (.t 37) (.c (.d (.int .i64 0))))])
    (.cond (.t 38)
      (.seq (.reg [.r 39 (.mv (.t 7)),
         .r 2 (.mv (.t 39))])
      .ret)
      .skip)))))
  (.reg [.r 40 (.bin .add (.t 31) (.c (.d (.int .i64 1)))),
     .r 31 (.mv (.t 40))]))))
def c31 : SC := .block 2 (.loop c30)
def c32 : SC :=
  (.seq (.reg [.r 20 (.bin .lss (.t 19) (.t 18))])
  (.seq (.cond (.t 20)
    .skip
    (.exit 0))
  (.seq (.block 1 (.seq (.reg [.r 21 (.idx 1 (.t 17) (.t 19)),
       .o 22 (.ld1 (.t 21)),
       .r 4 (.mv (.t 22))])
    (.seq (.seq (.reg [.r 23 (.mv (.t 4)),
       .r 24 (.len (.t 23)),
       .r 25 (.bin .eql (.t 24) (.c (.d (.int .i64 0))))])
    (.cond (.t 25)
      (.seq (.reg [.r 2 (.mv (.c (.d (.int .i64 9))))])
      .ret)
      .skip))
    (.seq (.seq (.reg [.r 26 (.mv (.t 4)),
       .r 27 (.len (.t 26)),
       .r 28 (.bin .gtr (.t 27) (.c (.d (.int .i64 20))))])
    (.cond (.t 28)
      (.seq (.reg [.r 2 (.mv (.c (.d (.int .i64 2))))])
      .ret)
      .skip))
    (.seq (.reg [.r 29 (.mv (.t 4)),
       .r 30 (.len (.t 29)),
       .r 31 (.mv (.c (.d (.int .i64 0))))])
    c31)))))
  (.reg [.r 41 (.bin .add (.t 19) (.c (.d (.int .i64 1)))),
     .r 19 (.mv (.t 41))]))))
def c33 : SC := .block 0 (.loop c32)
def c34 : SC :=
  (.seq (.reg [.r 1 (.boxI (.t 0)),
     .r 2 (.mv (.c (.d (.int .i64 0))))])
  (.seq (.seq (.reg [.r 8 (.fld 0 (.t 1)),
     .o 9 (.ld1 (.t 8)),
     .r 10 (.len (.t 9)),
     .r 11 (.bin .eql (.t 10) (.c (.d (.int .i64 0))))])
  (.cond (.t 11)
    (.seq (.reg [.r 2 (.mv (.c (.d (.int .i64 9))))])
    .ret)
    .skip))
  (.seq (.seq (.reg [.r 12 (.fld 0 (.t 1)),
     .o 13 (.ld1 (.t 12)),
     .r 14 (.len (.t 13)),
     .r 15 (.bin .gtr (.t 14) (.c (.d (.int .i64 20))))])
  (.cond (.t 15)
    (.seq (.reg [.r 2 (.mv (.c (.d (.int .i64 2))))])
    .ret)
    .skip))
  (.seq (.seq (.reg [.r 16 (.fld 0 (.t 1)),
     .o 17 (.ld1 (.t 16)),
     .r 18 (.len (.t 17)),
     .r 19 (.mv (.c (.d (.int .i64 0))))])
  c33)
  (.seq (.reg [.r 2 (.mv (.c (.d (.int .i64 0))))])
  .ret)))))
theorem k19 : fits Tryz.prog 140 Tryz.f140 c34 [.t 2] 1 = true := by kernel_rfl
def c35 : SC :=
  (.seq (.seq (.reg [.r 8 (.mv (.t 3)),
     .r 9 (.mv (.t 0)),
     .r 10 (.len (.t 9)),
     .r 11 (.bin .lss (.t 8) (.t 10))])
  (.cond (.t 11)
    .skip
    (.exit 0)))
  (.seq (.block 1 (.seq (.reg [.r 14 (.mv (.t 0)),
       .r 15 (.mv (.t 3)),
       .r 16 (.idx 2 (.t 14) (.t 15)),
       .o 17 (.ldA 2 (.t 16)),
       .c 18 (.f 148) [.t 17],
       .r 4 (.mv (.t 18))])
    (.seq (.reg [.r 19 (.mv (.t 4)),
       .r 20 (.bin .neq (.t 19) (.c (.d (.int .i64 0))))])
    (.cond (.t 20)
      (.seq (.reg [.r 21 (.mv (.t 4)),
         .r 2 (.mv (.t 21))])
      .ret)
      .skip))))
  (.reg [.r 12 (.mv (.t 3)),
     .r 13 (.bin .add (.t 12) (.c (.d (.int .i64 1)))),
     .r 3 (.mv (.t 13))])))
def c36 : SC := .block 0 (.loop c35)
def c37 : SC :=
  (.seq (.reg [.r 2 (.mv (.c (.d (.int .i64 0))))])
  (.seq (.seq (.reg [.r 5 (.mv (.t 0)),
     .r 6 (.len (.t 5)),
     .r 7 (.bin .gtr (.t 6) (.c (.d (.int .i64 2000))))])
  (.cond (.t 7)
    (.seq (.reg [.r 2 (.mv (.c (.d (.int .i64 2))))])
    .ret)
    .skip))
  (.seq (.seq (.reg [.r 3 (.mv (.c (.d (.int .i64 0))))])
  c36)
  (.seq (.reg [.r 2 (.mv (.c (.d (.int .i64 0))))])
  .ret))))
theorem k20 : fits Tryz.prog 123 Tryz.f123 c37 [.t 2] 1 = true := by kernel_rfl
set_option maxRecDepth 100000 in
set_option maxHeartbeats 40000000 in
noncomputable def w6 : (∀ (x0 : T1), {m : Option (Int) // ∀ r, m = some r → PureSpec Tryz.prog 140 [.agg (r5 x0)] (.int .i64 r)}) × (∀ (x0 : List T2), {m : Option (Int) // ∀ r, m = some r → PureSpec Tryz.prog 123 [.slice (List.map r6 x0)] (.int .i64 r)}) := by
  refine ⟨?g0, ?g1⟩
  case' g0 => (intro x0; apply Subtype.mk; intro r hm; apply pure_walk Tryz.func140 k19; unfold c34)
  case' g1 => (intro x0; apply Subtype.mk; intro r hm; apply pure_walk Tryz.func123 k20; unfold c37)
  all_goals (repeat' (first | with_reducible refine W_seq ?_ | with_reducible refine W_reg ?_ | with_reducible refine W_block ?_ | with_reducible refine W_skip ?_ | with_reducible refine W_ret ?_ | with_reducible refine W_exit ?_ | with_reducible refine O_nil ?_ | with_reducible refine K_seq ?_ | with_reducible refine K_seqE ?_ | with_reducible refine K_seqR ?_ | with_reducible refine K_block ?_ | with_reducible refine K_blockR ?_ | with_reducible refine K_blockE ?_ | ((with_reducible apply K_blockN); decide) | with_reducible refine O_o2r ?_ | ((with_reducible apply O_idxr hm); (iterate 2 (simp only [push_cast, seval]; rfl)); (intro _; rfl); intro e hm) | ((with_reducible apply O_idxVr hm); (iterate 3 (simp only [push_cast, seval]; rfl)); intro e hm) | ((with_reducible apply O_r); (simp only [push_cast, seval]; rfl); (first | exact trivial | omega)) | ((with_reducible apply O_ldV1r hm); (iterate 2 (simp only [push_cast, seval]; rfl)); (intro _; rfl); intro e hm) | ((with_reducible apply O_strr hm); (iterate 2 (simp only [push_cast, seval]; rfl)); intro hm) | ((with_reducible apply W_condT); (focus (simp only [push_cast, seval]; done))) | ((with_reducible apply W_condF); (focus (simp only [push_cast, seval]; done))) | ((with_reducible apply O_cF hm); (simp only [push_cast, seval]; rfl); (first | apply s11 _ | apply s12 _); (any_goals ((repeat' (first | rfl | (with_reducible first | apply ft1 | apply ft2 | apply f_optN | apply f_optS | apply f_some | apply f_tup | apply f_agg | apply f_ptr | apply f_fn | apply dv_slice | apply sv_d | apply f_cons | apply fold_nil | apply fold_cons | apply fold_app | apply f_rowI | apply f_rowY | apply f_rowS | apply f_rowB | apply f_rowL) | (with_reducible apply f_byte; decide))); done)); intro x hm) | ((with_reducible apply S_condB hm); (simp only [push_cast, seval]; rfl); intro hm; rotate_left; intro hm) | ((with_reducible apply K_endS hm); (focus (simp only [resOf, resL, RV.get, push_cast, seval]; rfl)); (focus ((repeat' (first | rfl | (with_reducible first | apply ft1 | apply ft2 | apply f_optN | apply f_optS | apply f_some | apply f_tup | apply f_agg | apply f_ptr | apply f_fn | apply dv_slice | apply sv_d | apply f_cons | apply fold_nil | apply fold_cons | apply fold_app | apply f_rowI | apply f_rowY | apply f_rowS | apply f_rowB | apply f_rowL) | (with_reducible apply f_byte; decide))); done))) | ((with_reducible apply K_leave hm); intro r hm) | ((with_reducible apply K_leaveR hm); intro r hm) | ((apply S_loopY (b := 2) (X := c31) (x := c30) rfl (fun (c : SV × SV × SV × SV × SV) (s : Int) => st [(17, c.1), (18, c.2.1), (19, c.2.2.1), (29, c.2.2.2.1), (30, c.2.2.2.2), (31, .d (.int .i64 s))] []) (c := (_, _, _, _, _)) (s0 := _) hm); (focus (first | (dsimp only; done) | (dsimp only; rfl) | rfl)); (with_reducible refine Then.mk ?_ ?_)) | ((apply S_loopY (b := 0) (X := c33) (x := c32) rfl (fun (c : SV × SV) (s : Int) => st [(17, c.1), (18, c.2), (19, .d (.int .i64 s))] []) (c := (_, _)) (s0 := _) hm); (focus (first | (dsimp only; done) | (dsimp only; rfl) | rfl)); (with_reducible refine Then.mk ?_ ?_)) | ((apply S_loopY (b := 0) (X := c36) (x := c35) rfl (fun (c : SV) (s : Int) => st [(0, c), (3, .d (.int .i64 s))] []) (c := _) (s0 := _) hm); (focus (first | (dsimp only; done) | (dsimp only; rfl) | rfl)); (with_reducible refine Then.mk ?_ ?_)) | ((apply K_next (s' := _) hm); (focus (first | (dsimp only; done) | (dsimp only; rfl) | rfl))) | ((apply K_brk (s' := _) hm); (focus (first | (dsimp only; done) | (dsimp only; rfl) | rfl))) | (((with_reducible apply K_brkN hm); (focus decide); intro r hm)) | (((with_reducible apply K_brkR hm); intro r hm)) | (((with_reducible apply LoopB.of); (focus (first | (dsimp only; done) | (dsimp only; rfl) | rfl)); (focus ((intro _; repeat' (first | with_reducible exact impC_end | with_reducible exact impC_endF | with_reducible refine impC_seq ?_ | with_reducible refine impC_block ?_ | ((with_reducible refine impC_rnd ?_); intro _) | ((with_reducible refine impC_brk ?_); intro _))))); (intro s o hm; first | unfold c30 | unfold c32 | unfold c35); rotate_left; intro s hm)) | (((apply imp_stT; (repeat' (first | with_reducible exact keepT_nil | with_reducible exact keepC_nil | with_reducible apply keepT_cons | with_reducible apply keepC_cons | ((with_reducible apply svle_eq); (focus (first | (simp only [push_cast, seval]; rfl) | rfl)); (focus ((repeat' (first | rfl | (with_reducible first | apply ft1 | apply ft2 | apply f_optN | apply f_optS | apply f_some | apply f_tup | apply f_agg | apply f_ptr | apply f_fn | apply dv_slice | apply sv_d | apply f_cons | apply fold_nil | apply fold_cons | apply fold_app | apply f_rowI | apply f_rowY | apply f_rowS | apply f_rowB | apply f_rowL) | (with_reducible apply f_byte; decide))); done))) | ((with_reducible apply svle_td); (focus (first | (simp only [push_cast, seval]; rfl) | rfl)); (focus (first | (simp only [push_cast, seval]; rfl) | rfl)); (focus ((repeat' (first | rfl | (with_reducible first | apply ft1 | apply ft2 | apply f_optN | apply f_optS | apply f_some | apply f_tup | apply f_agg | apply f_ptr | apply f_fn | apply dv_slice | apply sv_d | apply f_cons | apply fold_nil | apply fold_cons | apply fold_app | apply f_rowI | apply f_rowY | apply f_rowS | apply f_rowB | apply f_rowL) | (with_reducible apply f_byte; decide))); done))) | ((with_reducible apply chle_eq); (focus (first | (simp only [push_cast, seval]; rfl) | rfl)); (first | with_reducible exact chle_rfl rfl | with_reducible exact chle_map0 | with_reducible apply chle_vec | with_reducible apply chle_box)) | (with_reducible first | apply ct1 | apply ct2 | apply r_shS | apply r_shI | apply r_rflO | apply r_oneO | apply r_appO | apply r_nilO | apply c_ownN | apply c_ownL | apply vc_rfl | apply vc_nil | apply vc_cons | apply r_rfl | apply r_rows | apply r_nil | apply r_app | apply r_cons | apply c_rowI | apply c_rowY | apply c_rowS | apply c_rowB | apply c_rowL))); done)))))
noncomputable def m17 (x0 : T1) : Option (Int) := (w6.1 x0).1
theorem s13 (x0 : T1) : ∀ r, m17 x0 = some r → PureSpec Tryz.prog 140 [.agg (r5 x0)] (.int .i64 r) := (w6.1 x0).2
noncomputable def m18 (x0 : List T2) : Option (Int) := (w6.2 x0).1
theorem s14 (x0 : List T2) : ∀ r, m18 x0 = some r → PureSpec Tryz.prog 123 [.slice (List.map r6 x0)] (.int .i64 r) := (w6.2 x0).2
def c38 : SC :=
  (.seq (.reg [.r 29 (.bin .lss (.t 28) (.t 27))])
  (.seq (.cond (.t 29)
    .skip
    (.exit 2))
  (.seq (.block 3 (.seq (.reg [.r 30 (.idx 1 (.t 26) (.t 28)),
       .o 31 (.ldA 1 (.t 30)),
       .w 6 (.boxM (.c (.agg [.nils]))),
       .w 0 (.st 1 (.t 6) (.t 31))])
    (.seq (.reg [.o 32 (.ldA 1 (.t 6)),
       .c 33 (.f 140) [.t 32],
       .r 7 (.mv (.t 33))])
    (.seq (.reg [.r 34 (.mv (.t 7)),
       .r 35 (.bin .neq (.t 34) (.c (.d (.int .i64 0))))])
    (.cond (.t 35)
      (.seq (.reg [.r 36 (.mv (.t 7)),
         .r 2 (.mv (.t 36))])
      .ret)
      .skip)))))
  (.reg [.r 37 (.bin .add (.t 28) (.c (.d (.int .i64 1)))),
     .r 28 (.mv (.t 37))]))))
def c39 : SC := .block 2 (.loop c38)
def c40 : SC :=
  (.seq (.reg [.r 14 (.bin .lss (.t 13) (.t 12))])
  (.seq (.cond (.t 14)
    .skip
    (.exit 0))
  (.seq (.block 1 (.seq (.reg [.r 15 (.idx 2 (.t 11) (.t 13)),
       .o 16 (.ldA 2 (.t 15)),
       .w 4 (.boxM (.c (.agg [.d (.str []), .nils]))),
       .w 0 (.st 2 (.t 4) (.t 16))])
    (.seq (.seq (.reg [.r 17 (.fld 0 (.t 4)),
       .o 18 (.ld1 (.t 17)),
       .c 19 (.f 139) [.t 18],
       .r 20 (.not (.t 19))])
    (.cond (.t 20)
      (.seq (.reg [.r 2 (.mv (.c (.d (.int .i64 5))))])
      .ret)
      .skip))
    (.seq (.seq (.reg [.r 21 (.fld 1 (.t 4)),
       .o 22 (.ld1 (.t 21)),
       .r 23 (.len (.t 22)),
       .r 24 (.bin .gtr (.t 23) (.c (.d (.int .i64 50))))])
    (.cond (.t 24)
      (.seq (.reg [.r 2 (.mv (.c (.d (.int .i64 2))))])
      .ret)
      .skip))
    (.seq (.reg [.r 25 (.fld 1 (.t 4)),
       .o 26 (.ld1 (.t 25)),
       .r 27 (.len (.t 26)),
       .r 28 (.mv (.c (.d (.int .i64 0))))])
    c39)))))
  (.reg [.r 38 (.bin .add (.t 13) (.c (.d (.int .i64 1)))),
     .r 13 (.mv (.t 38))]))))
def c41 : SC := .block 0 (.loop c40)
def c42 : SC :=
  (.seq (.reg [.r 2 (.mv (.c (.d (.int .i64 0))))])
  (.seq (.seq (.reg [.r 8 (.mv (.t 0)),
     .r 9 (.len (.t 8)),
     .r 10 (.bin .gtr (.t 9) (.c (.d (.int .i64 2000))))])
  (.cond (.t 10)
    (.seq (.reg [.r 2 (.mv (.c (.d (.int .i64 2))))])
    .ret)
    .skip))
  (.seq (.seq (.reg [.r 11 (.mv (.t 0)),
     .r 12 (.len (.t 11)),
     .r 13 (.mv (.c (.d (.int .i64 0))))])
  c41)
  (.seq (.reg [.r 2 (.mv (.c (.d (.int .i64 0))))])
  .ret))))
theorem k21 : fits Tryz.prog 105 Tryz.f105 c42 [.t 2] 1 = true := by kernel_rfl
set_option maxRecDepth 100000 in
set_option maxHeartbeats 40000000 in
noncomputable def w7 : (∀ (x0 : List T2), {m : Option (Int) // ∀ r, m = some r → PureSpec Tryz.prog 105 [.slice (List.map r6 x0)] (.int .i64 r)}) := by
  (intro x0; apply Subtype.mk; intro r hm; apply pure_walk Tryz.func105 k21; unfold c42)
  repeat' (first | with_reducible refine W_seq ?_ | with_reducible refine W_reg ?_ | with_reducible refine W_block ?_ | with_reducible refine W_skip ?_ | with_reducible refine W_ret ?_ | with_reducible refine W_exit ?_ | with_reducible refine O_nil ?_ | with_reducible refine K_seq ?_ | with_reducible refine K_seqE ?_ | with_reducible refine K_seqR ?_ | with_reducible refine K_block ?_ | with_reducible refine K_blockR ?_ | with_reducible refine K_blockE ?_ | ((with_reducible apply K_blockN); decide) | with_reducible refine O_o2r ?_ | ((with_reducible apply O_idxr hm); (iterate 2 (simp only [push_cast, seval]; rfl)); (intro _; rfl); intro e hm) | ((with_reducible apply O_idxVr hm); (iterate 3 (simp only [push_cast, seval]; rfl)); intro e hm) | ((with_reducible apply O_r); (simp only [push_cast, seval]; rfl); (first | exact trivial | omega)) | ((with_reducible apply O_ldV1r hm); (iterate 2 (simp only [push_cast, seval]; rfl)); (intro _; rfl); intro e hm) | ((with_reducible apply O_strr hm); (iterate 2 (simp only [push_cast, seval]; rfl)); intro hm) | ((with_reducible apply W_condT); (focus (simp only [push_cast, seval]; done))) | ((with_reducible apply W_condF); (focus (simp only [push_cast, seval]; done))) | ((with_reducible apply O_cF hm); (simp only [push_cast, seval]; rfl); (first | apply s10 _ | apply s13 _); (any_goals ((repeat' (first | rfl | (with_reducible first | apply ft1 | apply ft2 | apply f_optN | apply f_optS | apply f_some | apply f_tup | apply f_agg | apply f_ptr | apply f_fn | apply dv_slice | apply sv_d | apply f_cons | apply fold_nil | apply fold_cons | apply fold_app | apply f_rowI | apply f_rowY | apply f_rowS | apply f_rowB | apply f_rowL) | (with_reducible apply f_byte; decide))); done)); intro x hm) | ((with_reducible apply O_w); (simp only [push_cast, seval]; rfl); (first | exact trivial | omega)) | ((with_reducible apply S_condB hm); (simp only [push_cast, seval]; rfl); intro hm; rotate_left; intro hm) | ((with_reducible apply K_endS hm); (focus (simp only [resOf, resL, RV.get, push_cast, seval]; rfl)); (focus ((repeat' (first | rfl | (with_reducible first | apply ft1 | apply ft2 | apply f_optN | apply f_optS | apply f_some | apply f_tup | apply f_agg | apply f_ptr | apply f_fn | apply dv_slice | apply sv_d | apply f_cons | apply fold_nil | apply fold_cons | apply fold_app | apply f_rowI | apply f_rowY | apply f_rowS | apply f_rowB | apply f_rowL) | (with_reducible apply f_byte; decide))); done))) | ((with_reducible apply K_leave hm); intro r hm) | ((with_reducible apply K_leaveR hm); intro r hm) | ((apply S_loopY (b := 2) (X := c39) (x := c38) rfl (fun (c : SV × SV × SV × SV × SV) (s : Int) => st [(11, c.1), (12, c.2.1), (13, c.2.2.1), (26, c.2.2.2.1), (27, c.2.2.2.2), (28, .d (.int .i64 s))] []) (c := (_, _, _, _, _)) (s0 := _) hm); (focus (first | (dsimp only; done) | (dsimp only; rfl) | rfl)); (with_reducible refine Then.mk ?_ ?_)) | ((apply S_loopY (b := 0) (X := c41) (x := c40) rfl (fun (c : SV × SV) (s : Int) => st [(11, c.1), (12, c.2), (13, .d (.int .i64 s))] []) (c := (_, _)) (s0 := _) hm); (focus (first | (dsimp only; done) | (dsimp only; rfl) | rfl)); (with_reducible refine Then.mk ?_ ?_)) | ((apply K_next (s' := _) hm); (focus (first | (dsimp only; done) | (dsimp only; rfl) | rfl))) | ((apply K_brk (s' := _) hm); (focus (first | (dsimp only; done) | (dsimp only; rfl) | rfl))) | (((with_reducible apply K_brkN hm); (focus decide); intro r hm)) | (((with_reducible apply K_brkR hm); intro r hm)) | (((with_reducible apply LoopB.of); (focus (first | (dsimp only; done) | (dsimp only; rfl) | rfl)); (focus ((intro _; repeat' (first | with_reducible exact impC_end | with_reducible exact impC_endF | with_reducible refine impC_seq ?_ | with_reducible refine impC_block ?_ | ((with_reducible refine impC_rnd ?_); intro _) | ((with_reducible refine impC_brk ?_); intro _))))); (intro s o hm; first | unfold c38 | unfold c40); rotate_left; intro s hm)) | (((apply imp_stT; (repeat' (first | with_reducible exact keepT_nil | with_reducible exact keepC_nil | with_reducible apply keepT_cons | with_reducible apply keepC_cons | ((with_reducible apply svle_eq); (focus (first | (simp only [push_cast, seval]; rfl) | rfl)); (focus ((repeat' (first | rfl | (with_reducible first | apply ft1 | apply ft2 | apply f_optN | apply f_optS | apply f_some | apply f_tup | apply f_agg | apply f_ptr | apply f_fn | apply dv_slice | apply sv_d | apply f_cons | apply fold_nil | apply fold_cons | apply fold_app | apply f_rowI | apply f_rowY | apply f_rowS | apply f_rowB | apply f_rowL) | (with_reducible apply f_byte; decide))); done))) | ((with_reducible apply svle_td); (focus (first | (simp only [push_cast, seval]; rfl) | rfl)); (focus (first | (simp only [push_cast, seval]; rfl) | rfl)); (focus ((repeat' (first | rfl | (with_reducible first | apply ft1 | apply ft2 | apply f_optN | apply f_optS | apply f_some | apply f_tup | apply f_agg | apply f_ptr | apply f_fn | apply dv_slice | apply sv_d | apply f_cons | apply fold_nil | apply fold_cons | apply fold_app | apply f_rowI | apply f_rowY | apply f_rowS | apply f_rowB | apply f_rowL) | (with_reducible apply f_byte; decide))); done))) | ((with_reducible apply chle_eq); (focus (first | (simp only [push_cast, seval]; rfl) | rfl)); (first | with_reducible exact chle_rfl rfl | with_reducible exact chle_map0 | with_reducible apply chle_vec | with_reducible apply chle_box)) | (with_reducible first | apply ct1 | apply ct2 | apply r_shS | apply r_shI | apply r_rflO | apply r_oneO | apply r_appO | apply r_nilO | apply c_ownN | apply c_ownL | apply vc_rfl | apply vc_nil | apply vc_cons | apply r_rfl | apply r_rows | apply r_nil | apply r_app | apply r_cons | apply c_rowI | apply c_rowY | apply c_rowS | apply c_rowB | apply c_rowL))); done))))
noncomputable def m19 (x0 : List T2) : Option (Int) := (w7 x0).1
theorem s15 (x0 : List T2) : ∀ r, m19 x0 = some r → PureSpec Tryz.prog 105 [.slice (List.map r6 x0)] (.int .i64 r) := (w7 x0).2
end Go.Proofs.YthailknfgcegoaaGreatDoor

/-
  A row that a call has made, as data.
-/
namespace Go.Proofs.YthailknfgcegoaaGreatDoor
set_option linter.unusedSimpArgs false
set_option linter.unusedVariables false
open Go.RowKit Go.Lib
theorem dR_toDVs : ∀ (l : List DV), SV.toDVs (dR l) = some l
  | [] => rfl
  | d :: l => by
    have ih := dR_toDVs l
    simp only [dR, List.map_cons, SV.toDVs, SV.toDV] at ih ⊢
    rw [ih]
end Go.Proofs.YthailknfgcegoaaGreatDoor

/-
  Calls whose result is an owned slice.
-/
namespace Go.Proofs.YthailknfgcegoaaGreatDoor
set_option linter.unusedSimpArgs false
set_option linter.unusedVariables false
open Go.RowKit Go.Lib
theorem dR_flat : ∀ (rows : List (List DV)), (rows.map dR).flatten = dR rows.flatten
  | [] => rfl
  | r :: rows => by
    have ih := dR_flat rows
    simp only [dR, List.map_cons, List.flatten_cons, List.map_append] at ih ⊢
    rw [ih]
theorem ow2 {P : Program} {f : FuncId} {args : List DV} {rows : List (List DV)} {size e : Nat} (hcall : callable P f = true) (hall : ∀ r ∈ rows, r.length = size)
    (h : ∀ (w : World) (M : Nat → Prop) (vs : List Value), (∀ b, M b → b < w.heap.size) → RepL w M args vs → Calls P f vs.toArray w fun ev w' => ∃ v news, ev = .returned v ∧ w'.ownsRow w.heap.size e size v rows.length news ∧ RepL w M rows.flatten news ∧ (∀ u ∈ news, u.oneCell' = true) ∧ Below w.heap.size w w') :
    FSpec P f (args.map .d) (.own (.sl e (List.replicate size .sh)) (.slice rows)) (args.map .d) := by
  refine ⟨hcall, fun w M vs F hM hF hn hv _ _ => ?_⟩
  have hno : SV.noOwns (args.map SV.d) = true := toDVs_noOwns _ _ (dR_toDVs args)
  obtain ⟨hS, rfl⟩ := RepGL.to_S _ _ _ hno hv
  have hR := RepSL.toDVs _ _ _ hS (dR_toDVs args)
  refine (h w _ vs (fun b hb => by rcases hb with hb | hb; exact (hM b hb).1; cases hb) hR).mono ?_
  rintro ev w' ⟨v, news, rfl, ho, hnews, h1, hB⟩
  have hfresh : ∀ b ∈ blkL v, w.heap.size ≤ b ∧ b < w'.heap.size := by
    intro b hb
    rcases ho.2 with ⟨rfl, _⟩ | ⟨g, cap, cur, rfl, hb2, hg, _⟩
    · simp [blkL, blk] at hb
    · simp [blkL, blk] at hb
      subst hb
      exact ⟨hb2, (Array.getElem?_eq_some_iff.1 hg).1⟩
  have hext : Ext w (fun b => M b ∨ b ∈ ([] : List Nat)) w' (fun b => M b ∨ b ∈ [] ++ blkL v) := ⟨hB.size, fun b hb hm => ⟨hB.block b hb, fun hm' => by
    rcases hm' with hm' | hm'
    · exact hm (.inl hm')
    · have := (hfresh b (by simpa using hm')).1; omega⟩⟩
  refine ⟨v, [], blkL v, rfl, RepGL.of_S _ _ (RepSL.of_d (hR.ext hext)), ?_, ?_, ?_, Chg.of_below hB⟩
  · unfold RepG RepO
    refine ⟨rows, news, [], rfl, ⟨by simpa using ho.1, ?_⟩, h1, by simpa using hall, ?_, by simp⟩
    · rcases ho.2 with hn | ⟨g, cap, cur, hv, hb, rest⟩
      · exact .inl hn
      · simp only [List.length_replicate]
        exact .inr ⟨g, cap, cur, hv, Nat.zero_le _, rest⟩
    · refine (ownRows_iff (κ := κ0) (by simpa using hall)).1 ?_
      have e1 : rows.map (ownR (List.replicate size .sh)) = rows.map dR := List.map_congr_left fun r hr => by
        have := ownR_sh (row := fun _ : Unit => r) (n := size) (fun _ => hall r hr) [()]
        simpa [vrow] using this
      rw [e1, dR_flat]
      exact RepGL.of_S _ _ (RepSL.of_d (hnews.ext hext))
  · cases hv' : blk v with
    | none => simp [blkL, hv']
    | some b => simp [blkL, hv']
  · intro b hb
    have := hfresh b (by simpa using hb)
    exact ⟨.inr this.1, this.2⟩
end Go.Proofs.YthailknfgcegoaaGreatDoor

/-
  slices.Clone at any element type, as a contract over data values: what comes back is owned.
-/
namespace Go.Proofs.YthailknfgcegoaaGreatDoor
set_option linter.unusedSimpArgs false
set_option linter.unusedVariables false
open Go.RowKit Go.Shelf Go.Lib
variable {P : Program} {ρ : Ren}
set_option maxHeartbeats 2000000 in
set_option maxRecDepth 100000 in
theorem clone_zero (L : SlLaysE0.n41 P ρ) (i0 : TypeInfo) (z : Value) (size bytes : Nat) (hi : P.info? (ρ.t 23) = some i0) (hz0 : i0.zero = some z) (hz1 : i0.size = size) (hz2 : i0.bytes = bytes) (hzs : z.cells.size = size) (hsz : 0 < size)
    (z23 : ∀ w, (Go.sizeOf (ρ.t 23)).run P w = .ok size w) (p : Addr) (c : Nat) (w : World) :
    Calls P (ρ.f 41) #[.slice (some p) 0 c] w fun e w' => ∃ v', e = .returned v' ∧ w'.ownsRow w.heap.size (ρ.t 23) size v' 0 [] ∧ Below w.heap.size w w' := by
  have mixed := L.mixed; have t4 := L.t4; have a4 := L.a4; have z4 := L.z4; have v4 := L.v4; have t22 := L.t22; have a22 := L.a22; have z22 := L.z22; have v22 := L.v22
  have q22 : ∀ (w : World) (a : Option Addr) (n c n' c' : Nat), (binOp .eql (ρ.t 22) (.slice a n c) (.slice none n' c')).run P w = .ok (.bool a.isNone) w := fun w a n c n' c' => Lib.run_eql_slice_nil w _ _ a n c n' c' L.t22
  have u22 : ∀ w, Sem.run P (underlying (ρ.t 22)) w = .ok (TypeDesc.slice (ρ.t 23)) w := run_underlying t22
  obtain ⟨_, _, FG⟩ := L.f41
  go_enter FG, SlBodyN.n41_ntmps ρ
  go_wp2_with (at_builtin; refine wpList_append_own _ rfl _ _ (ρ.t 22) rfl w.heap.size (ρ.t 23) i0 z size bytes t22 hi hz0 hz1 hz2 hzs hsz _ _ _ rfl (World.ownsRow_made w #[] 0 (Nat.le_refl _) (Nat.zero_le _) (by simp)) p 0 c [] rfl ?qc1 ?qc2 ?qc3 ?qc4 ?qc5 ?qc6 ?_)
  case qc1 => simp
  case qc2 => intro j u hj; simp at hj
  case qc3 => simp
  case qc4 => simp
  case qc5 => simp
  case qc6 => simp
  intro v' w1 hown hgrow hnil
  go_wp2
  go_ret
  exact ⟨v', rfl, by simpa using hown, ((Below.refl _ w).alloc (Nat.le_refl _) _).grown hgrow (by simp) (by intro k hk; simp [Value.ownBlock] at hk; omega)⟩
theorem clone_own (L : SlLaysE0.n41 P ρ) (i0 : TypeInfo) (z : Value) (size bytes : Nat) (hi : P.info? (ρ.t 23) = some i0) (hz0 : i0.zero = some z) (hz1 : i0.size = size) (hz2 : i0.bytes = bytes) (hzs : z.cells.size = size) (hsz : 0 < size) (hby : bytes ≤ 1024)
    (z23 : ∀ w, (Go.sizeOf (ρ.t 23)).run P w = .ok size w) (hcall : callable P (ρ.f 41) = true) (rows : List (List DV)) (hall : ∀ r ∈ rows, r.length = size) (hlen : rows.length ≤ 137438953472) : FSpec P (ρ.f 41) (([.slice rows] : List DV).map .d) (.own (.sl (ρ.t 23) (List.replicate size .sh)) (.slice rows)) (([.slice rows] : List DV).map .d) := by
  refine ow2 hcall hall (fun w M vs hM hv => ?_)
  simp only [RepL] at hv
  obtain ⟨u, us, rfl, hu, rfl⟩ := hv
  have hS : RepS w M (fun _ => .pointer none) (.d (.slice rows)) u := by simpa only [RepS] using hu
  obtain ⟨ad, cap, news, hu', k1, k2, k3⟩ := rowsY_rep (sz := size) hS (rows2 := rows.map dR) rfl (by intro r hr; obtain ⟨q, hq, rfl⟩ := List.mem_map.1 hr; simp [dR, hall q hq])
  simp only [List.length_map] at hu'
  subst hu'
  rw [dR_flatten] at k1
  have k1' : RepL w M rows.flatten news := RepSL.toDVs _ _ _ k1 (dR_toDVs _)
  have zero : ∀ (a : Option Addr), rows = [] → Calls P (ρ.f 41) #[.slice a 0 cap] w fun e w' => ∃ v news, e = .returned v ∧ w'.ownsRow w.heap.size (ρ.t 23) size v 0 news ∧ RepL w M ([] : List (List DV)).flatten news ∧ (∀ u ∈ news, u.oneCell' = true) ∧ Below w.heap.size w w' := by
    intro a hr
    subst hr
    cases a with
    | none =>
      refine (AnyE.slices_Clone_nil L 0 cap w).mono ?_
      rintro e w' ⟨rfl, rfl⟩
      exact ⟨_, [], rfl, ⟨by simp, .inl ⟨rfl, rfl⟩⟩, by simp [RepL], by simp, Below.refl _ _⟩
    | some p =>
      refine (clone_zero L i0 z size bytes hi hz0 hz1 hz2 hzs hsz z23 p cap w).mono ?_
      rintro e w' ⟨v', rfl, ho, hB⟩
      exact ⟨v', [], rfl, ho, by simp [RepL], by simp, hB⟩
  rcases k3 with ⟨hr, hn⟩ | ⟨b, o, rfl, hcells⟩
  · have hr' : rows = [] := by simpa using hr
    have := zero ad hr'
    subst hr'
    exact this
  · have hbytes : rows.length * bytes ≤ 140737488355328 := by
      have := Nat.mul_le_mul hlen hby
      omega
    refine (AnyE.slices_Clone L i0 z size bytes hi hz0 hz1 hz2 hzs hsz z23 b o rows.length cap news w (by rw [← flatten_len hall]; exact k1'.len) (by unfold maxLen; omega) hbytes hcells k2).mono ?_
    rintro e w' ⟨v', rfl, ho, _, hB⟩
    exact ⟨v', news, rfl, ho, k1', k2, hB⟩
end Go.Proofs.YthailknfgcegoaaGreatDoor

/-
  DERIVED: THE SHELF's CONTRACTS AT THIS DUMP, IN PLAIN WORDS (tools/lay-plain.mjs out of 'YthailknfgcegoaaGreatDoorShelfC.lean', which tools/lay-shelf.mjs wrote): THE SAME DECLARATIONS UNDER THE SAME NAMES: 'import', 'namespace', 'open', 'def', 'theorem' AND NOTHING ELSE: no command of the shelf's: FOR A HAND-IN. Each laying: the table of numbers ('.._ren') and one theorem, a field a fact of the dump's own or the kernel's comparison; each contract: ONE APPLICATION.
-/
namespace Go.Proofs
open Go.Shelf
def Tryz.lays41_94_ren : Go.Shelf.Ren := ⟨fun | 41 => 94 | n => n, fun | 22 => 98 | 23 => 131 | 4 => 4 | n => n, fun | n => n⟩
theorem Tryz.lays41_94 : Go.Proofs.SlLaysE0.n41 Tryz.prog Tryz.lays41_94_ren := {
  mixed := by kernel_rfl
  f41 := ⟨Tryz.f94.name, by decide, Tryz.func94.trans (congrArg some (by kernel_rfl))⟩
  t4 := Tryz.underlying4
  a4 := Tryz.isAgg4
  z4 := Tryz.sizeOf4
  v4 := Tryz.zeroValue4
  t22 := Tryz.underlying98
  a22 := Tryz.isAgg98
  z22 := Tryz.sizeOf98
  v22 := Tryz.zeroValue98 }
def Tryz.lays41_95_ren : Go.Shelf.Ren := ⟨fun | 41 => 95 | n => n, fun | 22 => 129 | 23 => 58 | 4 => 4 | n => n, fun | n => n⟩
theorem Tryz.lays41_95 : Go.Proofs.SlLaysE0.n41 Tryz.prog Tryz.lays41_95_ren := {
  mixed := by kernel_rfl
  f41 := ⟨Tryz.f95.name, by decide, Tryz.func95.trans (congrArg some (by kernel_rfl))⟩
  t4 := Tryz.underlying4
  a4 := Tryz.isAgg4
  z4 := Tryz.sizeOf4
  v4 := Tryz.zeroValue4
  t22 := Tryz.underlying129
  a22 := Tryz.isAgg129
  z22 := Tryz.sizeOf129
  v22 := Tryz.zeroValue129 }
def Tryz.lays41_96_ren : Go.Shelf.Ren := ⟨fun | 41 => 96 | n => n, fun | 22 => 58 | 23 => 9 | 4 => 4 | n => n, fun | n => n⟩
theorem Tryz.lays41_96 : Go.Proofs.SlLaysE0.n41 Tryz.prog Tryz.lays41_96_ren := {
  mixed := by kernel_rfl
  f41 := ⟨Tryz.f96.name, by decide, Tryz.func96.trans (congrArg some (by kernel_rfl))⟩
  t4 := Tryz.underlying4
  a4 := Tryz.isAgg4
  z4 := Tryz.sizeOf4
  v4 := Tryz.zeroValue4
  t22 := Tryz.underlying58
  a22 := Tryz.isAgg58
  z22 := Tryz.sizeOf58
  v22 := Tryz.zeroValue58 }
def Tryz.lays41_60_ren : Go.Shelf.Ren := ⟨fun | 41 => 60 | n => n, fun | 22 => 36 | 23 => 100 | 4 => 4 | n => n, fun | n => n⟩
theorem Tryz.lays41_60 : Go.Proofs.SlLaysE0.n41 Tryz.prog Tryz.lays41_60_ren := {
  mixed := by kernel_rfl
  f41 := ⟨Tryz.f60.name, by decide, Tryz.func60.trans (congrArg some (by kernel_rfl))⟩
  t4 := Tryz.underlying4
  a4 := Tryz.isAgg4
  z4 := Tryz.sizeOf4
  v4 := Tryz.zeroValue4
  t22 := Tryz.underlying36
  a22 := Tryz.isAgg36
  z22 := Tryz.sizeOf36
  v22 := Tryz.zeroValue36 }
end Go.Proofs

/-
  slices.Clone at some types.
-/
namespace Go.Proofs.YthailknfgcegoaaGreatDoor
open Go.RowKit Go.Shelf Go.Lib
def m96 (l : List T1) : Option (List T1) := if l.length ≤ 137438953472 then some l else none
theorem s92 (l : List T1) : ∀ r, m96 l = some r → FSpec Tryz.prog 94 (([.slice (List.map r5 l)] : List DV).map .d) (.own (.sl 131 (List.replicate 1 .sh)) (.slice (List.map r5 r))) (([.slice (List.map r5 l)] : List DV).map .d) := by
  intro r hr
  unfold m96 at hr
  split at hr
  · rename_i hlen
    cases hr
    exact clone_own Tryz.lays41_94 (i0 := (Tryz.prog.info? 131).get (by kernel_rfl)) (z := ((Tryz.prog.info? 131).get (by kernel_rfl)).zero.get (by kernel_rfl)) (size := 1) (bytes := ((Tryz.prog.info? 131).get (by kernel_rfl)).bytes) (Option.some_get _).symm (Option.some_get _).symm (by kernel_rfl) rfl (by kernel_rfl) (by decide) (of_decide_eq_true (by kernel_rfl)) Tryz.sizeOf131 (by kernel_rfl) (List.map r5 l) (by intro r hr; obtain ⟨b, _, rfl⟩ := List.mem_map.1 hr; rfl) (by simpa using hlen)
  · cases hr
def m97 (l : List (List (List UInt8))) : Option (List (List (List UInt8))) := if l.length ≤ 137438953472 then some l else none
theorem s93 (l : List (List (List UInt8))) : ∀ r, m97 l = some r → FSpec Tryz.prog 95 (([.slice (List.map (rowL rowS) l)] : List DV).map .d) (.own (.sl 58 (List.replicate 1 .sh)) (.slice (List.map (rowL rowS) r))) (([.slice (List.map (rowL rowS) l)] : List DV).map .d) := by
  intro r hr
  unfold m97 at hr
  split at hr
  · rename_i hlen
    cases hr
    exact clone_own Tryz.lays41_95 (i0 := (Tryz.prog.info? 58).get (by kernel_rfl)) (z := ((Tryz.prog.info? 58).get (by kernel_rfl)).zero.get (by kernel_rfl)) (size := 1) (bytes := ((Tryz.prog.info? 58).get (by kernel_rfl)).bytes) (Option.some_get _).symm (Option.some_get _).symm (by kernel_rfl) rfl (by kernel_rfl) (by decide) (of_decide_eq_true (by kernel_rfl)) Tryz.sizeOf58 (by kernel_rfl) (List.map (rowL rowS) l) (by intro r hr; obtain ⟨b, _, rfl⟩ := List.mem_map.1 hr; rfl) (by simpa using hlen)
  · cases hr
def m98 (l : List (List UInt8)) : Option (List (List UInt8)) := if l.length ≤ 137438953472 then some l else none
theorem s94 (l : List (List UInt8)) : ∀ r, m98 l = some r → FSpec Tryz.prog 96 (([.slice (List.map rowS l)] : List DV).map .d) (.own (.sl 9 (List.replicate 1 .sh)) (.slice (List.map rowS r))) (([.slice (List.map rowS l)] : List DV).map .d) := by
  intro r hr
  unfold m98 at hr
  split at hr
  · rename_i hlen
    cases hr
    exact clone_own Tryz.lays41_96 (i0 := (Tryz.prog.info? 9).get (by kernel_rfl)) (z := ((Tryz.prog.info? 9).get (by kernel_rfl)).zero.get (by kernel_rfl)) (size := 1) (bytes := ((Tryz.prog.info? 9).get (by kernel_rfl)).bytes) (Option.some_get _).symm (Option.some_get _).symm (by kernel_rfl) rfl (by kernel_rfl) (by decide) (of_decide_eq_true (by kernel_rfl)) Tryz.sizeOf9 (by kernel_rfl) (List.map rowS l) (by intro r hr; obtain ⟨b, _, rfl⟩ := List.mem_map.1 hr; rfl) (by simpa using hlen)
  · cases hr
def m99 (l : List T2) : Option (List T2) := if l.length ≤ 137438953472 then some l else none
theorem s95 (l : List T2) : ∀ r, m99 l = some r → FSpec Tryz.prog 60 (([.slice (List.map r6 l)] : List DV).map .d) (.own (.sl 100 (List.replicate 2 .sh)) (.slice (List.map r6 r))) (([.slice (List.map r6 l)] : List DV).map .d) := by
  intro r hr
  unfold m99 at hr
  split at hr
  · rename_i hlen
    cases hr
    exact clone_own Tryz.lays41_60 (i0 := (Tryz.prog.info? 100).get (by kernel_rfl)) (z := ((Tryz.prog.info? 100).get (by kernel_rfl)).zero.get (by kernel_rfl)) (size := 2) (bytes := ((Tryz.prog.info? 100).get (by kernel_rfl)).bytes) (Option.some_get _).symm (Option.some_get _).symm (by kernel_rfl) rfl (by kernel_rfl) (by decide) (of_decide_eq_true (by kernel_rfl)) Tryz.sizeOf100 (by kernel_rfl) (List.map r6 l) (by intro r hr; obtain ⟨b, _, rfl⟩ := List.mem_map.1 hr; rfl) (by simpa using hlen)
  · cases hr
end Go.Proofs.YthailknfgcegoaaGreatDoor

/-
  The bodies of some functions in the engine's form, printed by a program of mine (wip/tool/sc.py) out of the translation; each is held against the translation by the kernel.
-/
namespace Go.Proofs.YthailknfgcegoaaGreatDoor
def c3 : SC :=
  (.seq (.reg [.r 31 (.bin .lss (.t 30) (.t 29))])
  (.seq (.cond (.t 31)
    .skip
    (.exit 2))
  (.seq (.block 3 (.seq (.reg [.r 32 (.mv (.t 30)),
       .r 33 (.idx 1 (.t 28) (.t 30)),
       .o 34 (.ld1 (.t 33)),
       .r 5 (.mv (.t 32)),
       .r 6 (.mv (.t 34))])
    (.regE [.r 35 (.fld 1 (.t 1)),
       .r 36 (.ld1 (.t 35)),
       .r 37 (.mv (.t 3)),
       .r 38 (.idx 1 (.t 36) (.t 37)),
       .r 39 (.fld 0 (.t 38)),
       .r 40 (.ld1 (.t 39)),
       .r 41 (.mv (.t 5)),
       .r 42 (.mv (.t 6)),
       .q 43 (.f 96) [.t 42] [(0, 35, .fld 1 (.t 1)), (1, 36, .ld1 (.t 35)), (2, 37, .mv (.t 3)), (3, 38, .idx 1 (.t 36) (.t 37)), (4, 39, .fld 0 (.t 38)), (5, 40, .ld1 (.t 39)), (6, 41, .mv (.t 5))],
       .r 44 (.idx 1 (.t 40) (.t 41)),
       .x 0 (.st 1 (.t 44) (.t 43)) []])))
  (.reg [.r 45 (.bin .add (.t 30) (.c (.d (.int .i64 1)))),
     .r 30 (.mv (.t 45))]))))
def c4 : SC := .block 2 (.loop c3)
def c5 : SC :=
  (.seq (.reg [.r 15 (.bin .lss (.t 14) (.t 13))])
  (.seq (.cond (.t 15)
    .skip
    (.exit 0))
  (.seq (.block 1 (.seq (.reg [.r 16 (.mv (.t 14)),
       .r 17 (.idx 1 (.t 12) (.t 14)),
       .o 18 (.ldA 1 (.t 17)),
       .w 4 (.boxM (.c (.agg [.nils]))),
       .r 3 (.mv (.t 16)),
       .w 0 (.st 1 (.t 4) (.t 18))])
    (.seq (.regE [.r 19 (.fld 1 (.t 1)),
       .r 20 (.ld1 (.t 19)),
       .r 21 (.mv (.t 3)),
       .r 22 (.fld 0 (.t 4)),
       .r 23 (.ld1 (.t 22)),
       .q 24 (.f 95) [.t 23] [(0, 19, .fld 1 (.t 1)), (1, 20, .ld1 (.t 19)), (2, 21, .mv (.t 3))],
       .r 25 (.idx 1 (.t 20) (.t 21)),
       .r 26 (.fld 0 (.t 25)),
       .x 0 (.st 1 (.t 26) (.t 24)) []])
    (.seq (.reg [.r 27 (.fld 0 (.t 4)),
       .o 28 (.ld1 (.t 27)),
       .r 29 (.len (.t 28)),
       .r 30 (.mv (.c (.d (.int .i64 0))))])
    c4))))
  (.reg [.r 46 (.bin .add (.t 14) (.c (.d (.int .i64 1)))),
     .r 14 (.mv (.t 46))]))))
def c6 : SC := .block 0 (.loop c5)
def c7 : SC :=
  (.seq (.reg [.w 1 (.boxM (.t 0)),
     .w 2 (.boxM (.c (.agg [.d (.str []), .nils])))])
  (.seq (.reg [.r 7 (.fld 1 (.t 1)),
     .o 8 (.ld1 (.t 7)),
     .p (some 9) (.f 94) [.t 8],
     .r 10 (.fld 1 (.t 1)),
     .w 0 (.st 1 (.t 10) (.t 9))])
  (.seq (.seq (.reg [.r 11 (.fld 1 (.t 1)),
     .o 12 (.ld1 (.t 11)),
     .r 13 (.len (.t 12)),
     .r 14 (.mv (.c (.d (.int .i64 0))))])
  c6)
  (.seq (.reg [.o 47 (.ldA 2 (.t 1)),
     .w 0 (.st 2 (.t 2) (.t 47))])
  .ret))))
theorem k8 : fits Tryz.prog 61 Tryz.f61 c7 [.cell 2 2] 1 = true := by kernel_rfl
end Go.Proofs.YthailknfgcegoaaGreatDoor

/-
  wire.Clone: a copy of a segment, all of which is owned.
-/
namespace Go.Proofs.YthailknfgcegoaaGreatDoor
set_option linter.unusedSimpArgs false
set_option linter.unusedVariables false
open Go.RowKit
def msR : List Mask := [.sl 9 [.sh]]
def msE : List Mask := [.sl 58 msR]
def msS : List Mask := [.sh, .sl 131 msE]
def cloneOk (x : T2) : Prop := x.fElements.length ≤ 137438953472 ∧ ∀ e ∈ x.fElements, e.fRepeats.length ≤ 137438953472 ∧ ∀ p ∈ e.fRepeats, p.length ≤ 137438953472
instance (x : T2) : Decidable (cloneOk x) := by unfold cloneOk; infer_instance
def m102 (x : T2) : Option T2 := if cloneOk x then some x else none
theorem ownR_E0 (y : T1) : ownR [.sh] (r5 y) = [.d (.slice (List.map (rowL rowS) y.fRepeats))] := rfl
theorem ownR_E (y : T1) : ownR msE (r5 y) = [.own (.sl 58 msR) (.slice (List.map (rowL rowS) y.fRepeats))] := rfl
theorem ownR_R0 (y : List (List UInt8)) : ownR [.sh] (rowL rowS y) = [.d (.slice (List.map rowS y))] := rfl
theorem ownR_R (y : List (List UInt8)) : ownR msR (rowL rowS y) = [.own (.sl 9 [.sh]) (.slice (List.map rowS y))] := rfl
set_option maxRecDepth 100000
set_option maxHeartbeats 4000000
theorem ow3 (x : T2) (hx : cloneOk x) : FSpec Tryz.prog 61 (([.agg (r6 x)] : List DV).map .d) (.agg (ownR msS (r6 x))) (([.agg (r6 x)] : List DV).map .d) := by
  obtain ⟨tag, els⟩ := x
  obtain ⟨hx1, hx2⟩ := hx
  dsimp only at hx1 hx2
  refine fs2 (N := 48) (k := 1) Tryz.func61 k8 (by kernel_rfl) rfl rfl ?_
  unfold c7
  repeat' (first | ((with_reducible apply O_pD); (focus (simp only [push_cast, seval]; rfl)); (focus exact s92 els els (by unfold m96; rw [if_pos hx1])); (focus rfl); (focus (intro _; rfl))) | with_reducible refine W_seq ?_ | with_reducible refine W_reg ?_ | with_reducible refine W_regD ?_ | with_reducible refine W_regE ?_ | with_reducible refine W_regP ?_ | with_reducible refine W_block ?_ | with_reducible refine W_skip ?_ | with_reducible refine W_ret ?_ | with_reducible refine W_exit ?_ | with_reducible refine O_nil ?_ | with_reducible refine K_seq ?_ | with_reducible refine K_seqE ?_ | with_reducible refine K_seqR ?_ | with_reducible refine K_block ?_ | with_reducible refine K_blockR ?_ | with_reducible refine K_blockE ?_ | with_reducible refine K_forE ?_ | with_reducible refine K_forR ?_ | with_reducible refine K_rndE ?_ | with_reducible refine K_rndR ?_ | with_reducible refine O_o2r ?_ | ((with_reducible apply K_blockN); decide) | ((with_reducible apply O_r); (focus (simp only [push_cast, seval]; rfl)); (focus (first | exact trivial | omega))) | ((with_reducible apply O_w); (focus (simp only [push_cast, seval]; rfl)); (focus (first | exact trivial | omega))) | ((with_reducible apply O_x); (focus (simp only [push_cast, seval]; rfl)); (focus (first | exact trivial | omega)); (focus exact Rer_nil)))
  · unfold c6 c5
    refine W_block ?_
    refine W_for (α := Unit) (b0 := 0) (c := 15) (k := 14) (n := 13) (t := 46) (fun i _ => st [(1, .ref 1 0), (2, .ref 2 0), (12, .vec 9), (13, .d (.int .i64 (els.length : Int))), (14, .d (.int .i64 (i : Int))), (48, .d (.agg (r6 ⟨tag, els⟩)))]
      [(1, .box [.d (.str tag), .vec 9]), (2, .box [.d (.str []), .nils]), (9, .vec 131 1 (mixO msE [.sh] r5 els i))]) (fun _ _ => True) els.length () (by omega) (fun _ _ => rfl) (fun _ _ => rfl) ?h0 trivial ?body ?done
    case h0 => exact imp_st (by simp only [keepS, push_cast, seval, and_self]) (by simp only [keepH, push_cast, seval, mixO_zero, and_self])
    case body =>
      intro i _ hi _
      obtain ⟨y, hy⟩ : ∃ y, els[i]? = some y := ⟨els[i], List.getElem?_eq_getElem hi⟩
      have hmem : y ∈ els := List.mem_of_getElem? hy
      obtain ⟨hy1, hy2⟩ := hx2 y hmem
      have hpl : (vrowO msE r5 (els.take i)).length = i := by rw [vrowO_length]; simp; omega
      have e0 : mixO msE [.sh] r5 els i = zrow (vrowO msE r5 (els.take i)) [.d (.slice (List.map (rowL rowS) y.fRepeats))] (vrowO [.sh] r5 (els.drop (i + 1))) := by
        rw [mixO_zrow hy, ownR_E0]
      dsimp only
      rw [e0]
      repeat' (first | ((with_reducible apply O_idxK); (focus (simp only [push_cast, seval]; rfl)); (focus (simp only [push_cast, seval]; rfl)); (focus (simp only [push_cast, seval]; rfl)); (focus exact hpl); (focus rfl)) | ((with_reducible apply O_ldAK); (focus (simp only [push_cast, seval]; rfl)); (focus (simp only [push_cast, seval]; rfl)); (focus exact hpl); (focus (simp only [push_cast, seval]; rfl)); (focus rfl); (focus simp)) | ((with_reducible apply O_qD); (focus (simp only [push_cast, seval]; rfl)); (focus exact s93 y.fRepeats y.fRepeats (by unfold m97; rw [if_pos hy1])); (focus rfl); (focus (intro _; rfl)); (focus ((repeat' (first | exact Rer_nil | ((with_reducible apply Rer_cons); (focus (simp only [push_cast, seval]; rfl)); (focus exact trivial); (focus (simp only [push_cast, seval]))))); done))) | ((with_reducible apply O_stKx); (focus (simp only [push_cast, seval]; rfl)); (focus (simp only [push_cast, seval]; rfl)); (focus (simp only [push_cast, seval]; rfl)); (focus exact hpl); (focus simp); (focus (simp only [push_cast, seval]; rfl)); (focus exact Rer_nil)) | with_reducible refine W_seq ?_ | with_reducible refine W_reg ?_ | with_reducible refine W_regD ?_ | with_reducible refine W_regE ?_ | with_reducible refine W_regP ?_ | with_reducible refine W_block ?_ | with_reducible refine W_skip ?_ | with_reducible refine W_ret ?_ | with_reducible refine W_exit ?_ | with_reducible refine O_nil ?_ | with_reducible refine K_seq ?_ | with_reducible refine K_seqE ?_ | with_reducible refine K_seqR ?_ | with_reducible refine K_block ?_ | with_reducible refine K_blockR ?_ | with_reducible refine K_blockE ?_ | with_reducible refine K_forE ?_ | with_reducible refine K_forR ?_ | with_reducible refine K_rndE ?_ | with_reducible refine K_rndR ?_ | with_reducible refine O_o2r ?_ | ((with_reducible apply K_blockN); decide) | ((with_reducible apply O_r); (focus (simp only [push_cast, seval]; rfl)); (focus (first | exact trivial | omega))) | ((with_reducible apply O_w); (focus (simp only [push_cast, seval]; rfl)); (focus (first | exact trivial | omega))) | ((with_reducible apply O_x); (focus (simp only [push_cast, seval]; rfl)); (focus (first | exact trivial | omega)); (focus exact Rer_nil)))
      · unfold c4 c3
        refine W_block ?_
        refine W_for (α := Unit) (b0 := 2) (c := 31) (k := 30) (n := 29) (t := 45) (fun k _ => st [(1, .ref 1 0), (2, .ref 2 0), (3, .d (.int .i64 (i : Int))), (4, .ref 4 0), (12, .vec 9), (13, .d (.int .i64 (els.length : Int))), (14, .d (.int .i64 (i : Int))), (28, .d (.slice (List.map (rowL rowS) y.fRepeats))), (29, .d (.int .i64 (y.fRepeats.length : Int))), (30, .d (.int .i64 (k : Int))), (48, .d (.agg (r6 ⟨tag, els⟩)))]
          [(1, .box [.d (.str tag), .vec 9]), (2, .box [.d (.str []), .nils]), (9, .vec 131 1 (zrow (vrowO msE r5 (els.take i)) [.vec 24] (vrowO [.sh] r5 (els.drop (i + 1))))), (24, .vec 58 1 (mixO msR [.sh] (rowL rowS) y.fRepeats k))]) (fun _ _ => True) y.fRepeats.length () (by omega) (fun _ _ => rfl) (fun _ _ => rfl) ?g0 trivial ?gbody ?gdone
        case g0 => exact imp_st (by simp only [keepS, push_cast, seval, and_self]) (by simp only [keepH, push_cast, seval, mixO_zero, List.replicate, and_self])
        case gbody =>
          intro k _ hk _
          obtain ⟨z, hz⟩ : ∃ z, y.fRepeats[k]? = some z := ⟨y.fRepeats[k], List.getElem?_eq_getElem hk⟩
          have hz1 := hy2 z (List.mem_of_getElem? hz)
          have hpl2 : (vrowO msR (rowL rowS) (y.fRepeats.take k)).length = k := by rw [vrowO_length]; simp; omega
          have e1 : mixO msR [.sh] (rowL rowS) y.fRepeats k = zrow (vrowO msR (rowL rowS) (y.fRepeats.take k)) [.d (.slice (List.map rowS z))] (vrowO [.sh] (rowL rowS) (y.fRepeats.drop (k + 1))) := by
            rw [mixO_zrow hz, ownR_R0]
          have e2 : mixO msR [.sh] (rowL rowS) y.fRepeats (k + 1) = zrow (vrowO msR (rowL rowS) (y.fRepeats.take k)) [.own (.sl 9 [.sh]) (.slice (List.map rowS z))] (vrowO [.sh] (rowL rowS) (y.fRepeats.drop (k + 1))) := by
            rw [← zrow_mixO hz, ownR_R]
          dsimp only
          rw [e1]
          repeat' (first | ((with_reducible apply O_idxK); (focus (simp only [push_cast, seval]; rfl)); (focus (simp only [push_cast, seval]; rfl)); (focus (simp only [push_cast, seval]; rfl)); (focus (first | exact hpl | exact hpl2)); (focus rfl)) | ((with_reducible apply O_idxD); (focus (simp only [push_cast, seval]; rfl)); (focus (simp only [push_cast, seval]; rfl)); (focus (intro _; rfl)); (focus exact getI_ofN hz)) | ((with_reducible apply O_ldK); (focus (simp only [push_cast, seval]; rfl)); (focus (simp only [push_cast, seval]; rfl)); (focus exact hpl); (focus (simp only [push_cast, seval]; rfl)); (focus rfl)) | ((with_reducible apply O_qD); (focus (simp only [push_cast, seval]; rfl)); (focus exact s94 z z (by unfold m98; rw [if_pos hz1])); (focus rfl); (focus (intro _; rfl)); (focus ((repeat' (first | exact Rer_nil | ((with_reducible apply Rer_idxK); (focus (simp only [push_cast, seval]; rfl)); (focus (simp only [push_cast, seval]; rfl)); (focus (simp only [push_cast, seval]; rfl)); (focus exact hpl); (focus rfl); (focus (simp only [push_cast, seval]; (try rfl); done))) | ((with_reducible apply Rer_ldK); (focus (simp only [push_cast, seval]; rfl)); (focus (simp only [push_cast, seval]; rfl)); (focus exact hpl); (focus (simp only [push_cast, seval]; rfl)); (focus rfl); (focus (simp only [push_cast, seval]; (try rfl); done))) | ((with_reducible apply Rer_cons); (focus (simp only [push_cast, seval]; rfl)); (focus exact trivial); (focus (simp only [push_cast, seval]))))); done))) | ((with_reducible apply O_stKx); (focus (simp only [push_cast, seval]; rfl)); (focus (simp only [push_cast, seval]; rfl)); (focus (simp only [push_cast, seval]; rfl)); (focus exact hpl2); (focus simp); (focus (simp only [push_cast, seval]; rfl)); (focus exact Rer_nil)) | with_reducible refine W_seq ?_ | with_reducible refine W_reg ?_ | with_reducible refine W_regD ?_ | with_reducible refine W_regE ?_ | with_reducible refine W_regP ?_ | with_reducible refine W_block ?_ | with_reducible refine W_skip ?_ | with_reducible refine W_ret ?_ | with_reducible refine W_exit ?_ | with_reducible refine O_nil ?_ | with_reducible refine K_seq ?_ | with_reducible refine K_seqE ?_ | with_reducible refine K_seqR ?_ | with_reducible refine K_block ?_ | with_reducible refine K_blockR ?_ | with_reducible refine K_blockE ?_ | with_reducible refine K_forE ?_ | with_reducible refine K_forR ?_ | with_reducible refine K_rndE ?_ | with_reducible refine K_rndR ?_ | with_reducible refine O_o2r ?_ | ((with_reducible apply K_blockN); decide) | ((with_reducible apply O_r); (focus (simp only [push_cast, seval]; rfl)); (focus (first | exact trivial | omega))) | ((with_reducible apply O_w); (focus (simp only [push_cast, seval]; rfl)); (focus (first | exact trivial | omega))) | ((with_reducible apply O_x); (focus (simp only [push_cast, seval]; rfl)); (focus (first | exact trivial | omega)); (focus exact Rer_nil)))
          · apply K_for ()
            (focus (simp only [push_cast, seval]))
            rotate_left
            (focus exact trivial)
            refine Imp.trans (imp_closeZ (id := 24) (cid := 43) (off := 0) (ms' := [.sh]) (row' := rowS) (y := z) (k := k) (by (simp only [push_cast, seval]; (try rfl); done)) (by (simp only [push_cast, seval]; (try rfl); done)) hpl2.symm (by (simp only [push_cast, seval]; (try rfl); done)) r_rflO rfl (fun _ => rfl) (by decide) (by (simp only [push_cast, seval]; (try rfl); done))) ?_
            exact imp_st (by simp only [keepS, push_cast, seval, and_self]) (by simp only [keepH, push_cast, seval, e2, and_self])
        case gdone =>
          intro _ _
          refine K_block ?_
          have e3 : mixO msE [.sh] r5 els (i + 1) = zrow (vrowO msE r5 (els.take i)) [.own (.sl 58 msR) (.slice (List.map (rowL rowS) y.fRepeats))] (vrowO [.sh] r5 (els.drop (i + 1))) := by
            rw [← zrow_mixO hy, ownR_E]
          dsimp only
          rw [mixO_all]
          apply K_for ()
          (focus (simp only [push_cast, seval]))
          rotate_left
          (focus exact trivial)
          refine Imp.trans (imp_closeZ (id := 9) (cid := 24) (off := 0) (ms' := msR) (row' := rowL rowS) (y := y.fRepeats) (k := i) (by (simp only [push_cast, seval]; (try rfl); done)) (by (simp only [push_cast, seval]; (try rfl); done)) hpl.symm (by (simp only [push_cast, seval]; (try rfl); done)) r_rflO rfl (fun _ => rfl) (by decide) (by (simp only [push_cast, seval]; (try rfl); done))) ?_
          exact imp_st (by simp only [keepS, push_cast, seval, and_self]) (by simp only [keepH, push_cast, seval, e3, and_self])
    case done =>
      intro _ _
      dsimp only
      rw [mixO_all]
      repeat' (first | with_reducible refine W_seq ?_ | with_reducible refine W_reg ?_ | with_reducible refine W_regD ?_ | with_reducible refine W_regE ?_ | with_reducible refine W_regP ?_ | with_reducible refine W_block ?_ | with_reducible refine W_skip ?_ | with_reducible refine W_ret ?_ | with_reducible refine W_exit ?_ | with_reducible refine O_nil ?_ | with_reducible refine K_seq ?_ | with_reducible refine K_seqE ?_ | with_reducible refine K_seqR ?_ | with_reducible refine K_block ?_ | with_reducible refine K_blockR ?_ | with_reducible refine K_blockE ?_ | with_reducible refine K_forE ?_ | with_reducible refine K_forR ?_ | with_reducible refine K_rndE ?_ | with_reducible refine K_rndR ?_ | with_reducible refine O_o2r ?_ | ((with_reducible apply K_blockN); decide) | ((with_reducible apply O_r); (focus (simp only [push_cast, seval]; rfl)); (focus (first | exact trivial | omega))) | ((with_reducible apply O_w); (focus (simp only [push_cast, seval]; rfl)); (focus (first | exact trivial | omega))) | ((with_reducible apply O_x); (focus (simp only [push_cast, seval]; rfl)); (focus (first | exact trivial | omega)); (focus exact Rer_nil)))
      · apply K_endO (r0 := (⟨tag, els⟩ : T2)) (r := ⟨tag, els⟩) (row := r6) rfl (Imp.refl _)
        (focus (simp only [push_cast, seval]; rfl))
        (focus (simp only [push_cast, seval]; rfl))
        (focus (simp only [push_cast, seval]; (try rfl); done))
        (focus exact ROkL.data rfl (ROk_vec (l := els) (row := r5) (ms := msE) (by (simp only [push_cast, seval]; (try rfl); done)) rfl (fun _ => rfl) (by simp) ROkL.nil))
        (focus rfl)
theorem fs3 (x : T2) : ∀ r, m102 x = some r → FSpec Tryz.prog 61 (([.agg (r6 x)] : List DV).map .d) (.agg (ownR msS (r6 r))) (([.agg (r6 x)] : List DV).map .d) := by
  intro r hr
  unfold m102 at hr
  split at hr
  · rename_i hx; cases hr; exact ow3 x hx
  · cases hr
end Go.Proofs.YthailknfgcegoaaGreatDoor

/-
  The bodies of some functions in the engine's form, printed by a program of mine (wip/tool/sc.py) out of the translation; each is held against the translation by the kernel.
-/
namespace Go.Proofs.YthailknfgcegoaaGreatDoor
end Go.Proofs.YthailknfgcegoaaGreatDoor

/-
  interchangeref2.copied: a copy of a segment, all of which is owned.
-/
namespace Go.Proofs.YthailknfgcegoaaGreatDoor
set_option linter.unusedSimpArgs false
set_option linter.unusedVariables false
open Go.RowKit
set_option maxRecDepth 100000
set_option maxHeartbeats 4000000
end Go.Proofs.YthailknfgcegoaaGreatDoor

/-
  wire.Clone and the reference's copied, as functions that only compute.
-/
namespace Go.Proofs.YthailknfgcegoaaGreatDoor
set_option linter.unusedSimpArgs false
set_option linter.unusedVariables false
open Go.RowKit
theorem s98 (x : T2) : ∀ r, m102 x = some r → PureSpec Tryz.prog 61 [.agg (r6 x)] (.agg (r6 r)) := fun r hr =>
  ((fs3 x r hr).weak (ms' := [.sh, .sh]) rfl rfl).pure rfl
end Go.Proofs.YthailknfgcegoaaGreatDoor

/-
  Bodies of functions and what they compute, printed by programs of mine (wip/tool/gen.py, sc.py) out of the translation; the kernel holds each against the translation.
-/
namespace Go.Proofs.YthailknfgcegoaaGreatDoor
open Go.RowKit
set_option linter.unusedSimpArgs false
set_option linter.unusedVariables false
def c43 : SC :=
  (.seq (.reg [.r 10 (.bin .lss (.t 9) (.t 8))])
  (.seq (.cond (.t 10)
    .skip
    (.exit 0))
  (.seq (.block 1 (.seq (.reg [.r 11 (.mv (.t 9)),
       .r 12 (.idx 2 (.t 7) (.t 9)),
       .o 13 (.ldA 2 (.t 12)),
       .w 4 (.boxM (.c (.agg [.d (.str []), .nils]))),
       .r 3 (.mv (.t 11)),
       .w 0 (.st 2 (.t 4) (.t 13))])
    (.reg [.r 14 (.mv (.t 0)),
       .r 15 (.mv (.t 3)),
       .o 16 (.ldA 2 (.t 4)),
       .c 17 (.f 61) [.t 16],
       .r 18 (.idx 2 (.t 14) (.t 15)),
       .w 0 (.st 2 (.t 18) (.t 17))])))
  (.reg [.r 19 (.bin .add (.t 9) (.c (.d (.int .i64 1)))),
     .r 9 (.mv (.t 19))]))))
def c44 : SC := .block 0 (.loop c43)
def c45 : SC :=
  (.seq (.reg [.r 2 (.mv (.c (.nils)))])
  (.seq (.reg [.r 5 (.mv (.t 0)),
     .p (some 6) (.f 60) [.t 5],
     .r 0 (.mv (.t 6))])
  (.seq (.seq (.reg [.r 7 (.mv (.t 0)),
     .r 8 (.len (.t 7)),
     .r 9 (.mv (.c (.d (.int .i64 0))))])
  c44)
  (.seq (.reg [.r 20 (.mv (.t 0)),
     .r 2 (.mv (.t 20))])
  .ret))))
theorem k22 : fits Tryz.prog 25 Tryz.f25 c45 [.t 2] 1 = true := by kernel_rfl
set_option maxRecDepth 100000 in
set_option maxHeartbeats 40000000 in
noncomputable def w8 : (∀ (x0 : List T2), {m : Option ((List T2)) // ∀ r, m = some r → PureSpec Tryz.prog 25 [.slice (List.map r6 x0)] (.slice (List.map r6 r))}) := by
  (intro x0; apply Subtype.mk; intro r hm; apply pure_walk Tryz.func25 k22; unfold c45)
  repeat' (first | with_reducible refine W_seq ?_ | with_reducible refine W_reg ?_ | with_reducible refine W_block ?_ | with_reducible refine W_skip ?_ | with_reducible refine W_ret ?_ | with_reducible refine W_exit ?_ | with_reducible refine O_nil ?_ | with_reducible refine K_seq ?_ | with_reducible refine K_seqE ?_ | with_reducible refine K_seqR ?_ | with_reducible refine K_block ?_ | with_reducible refine K_blockR ?_ | with_reducible refine K_blockE ?_ | ((with_reducible apply K_blockN); decide) | with_reducible refine O_o2r ?_ | ((with_reducible apply O_idxr hm); (iterate 2 (simp only [push_cast, seval]; rfl)); (intro _; rfl); intro e hm) | ((with_reducible apply O_idxVr hm); (iterate 3 (simp only [push_cast, seval]; rfl)); intro e hm) | ((with_reducible apply O_r); (simp only [push_cast, seval]; rfl); (first | exact trivial | omega)) | ((with_reducible apply O_ldV1r hm); (iterate 2 (simp only [push_cast, seval]; rfl)); (intro _; rfl); intro e hm) | ((with_reducible apply O_ldAVr hm); (iterate 2 (simp only [push_cast, seval]; rfl)); (intro _; rfl); intro e hm) | ((with_reducible apply O_strr hm); (iterate 2 (simp only [push_cast, seval]; rfl)); intro hm) | ((with_reducible apply W_condT); (focus (simp only [push_cast, seval]; done))) | ((with_reducible apply W_condF); (focus (simp only [push_cast, seval]; done))) | ((with_reducible apply O_cF hm); (simp only [push_cast, seval]; rfl); (first | apply s95 _ | apply s98 _); (any_goals ((repeat' (first | rfl | (with_reducible first | apply ft1 | apply ft2 | apply f_optN | apply f_optS | apply f_some | apply f_tup | apply f_agg | apply f_ptr | apply f_fn | apply dv_slice | apply sv_d | apply f_cons | apply fold_nil | apply fold_cons | apply fold_app | apply f_rowI | apply f_rowY | apply f_rowS | apply f_rowB | apply f_rowL) | (with_reducible apply f_byte; decide))); done)); intro x hm) | ((with_reducible apply O_w); (simp only [push_cast, seval]; rfl); (first | exact trivial | omega)) | ((with_reducible apply O_stVA hm); (iterate 4 (simp only [push_cast, seval]; rfl)); (focus ((repeat' (first | rfl | (with_reducible first | apply ft1 | apply ft2 | apply f_optN | apply f_optS | apply f_some | apply f_tup | apply f_agg | apply f_ptr | apply f_fn | apply dv_slice | apply sv_d | apply f_cons | apply fold_nil | apply fold_cons | apply fold_app | apply f_rowI | apply f_rowY | apply f_rowS | apply f_rowB | apply f_rowL) | (with_reducible apply f_byte; decide))); done)); decide; (intro _; rfl); intro e hm) | ((with_reducible apply S_condB hm); (simp only [push_cast, seval]; rfl); intro hm; rotate_left; intro hm) | ((with_reducible apply K_endS hm); (focus (simp only [resOf, resL, RV.get, push_cast, seval]; rfl)); (focus ((repeat' (first | rfl | (with_reducible first | apply ft1 | apply ft2 | apply f_optN | apply f_optS | apply f_some | apply f_tup | apply f_agg | apply f_ptr | apply f_fn | apply dv_slice | apply sv_d | apply f_cons | apply fold_nil | apply fold_cons | apply fold_app | apply f_rowI | apply f_rowY | apply f_rowS | apply f_rowB | apply f_rowL) | (with_reducible apply f_byte; decide))); done))) | ((with_reducible apply K_leave hm); intro r hm) | ((with_reducible apply K_leaveR hm); intro r hm) | ((apply S_loopY (b := 0) (X := c44) (x := c43) rfl (fun (c : SV) (s : (List T2) × Int) => st [(0, .vec 6), (7, .vec 6), (8, c), (9, .d (.int .i64 s.2))] [(6, .vec 100 2 (vrow r6 s.1))]) (c := _) (s0 := (_, _)) hm); (focus (first | (dsimp only; done) | (dsimp only; rfl) | rfl)); (with_reducible refine Then.mk ?_ ?_)) | ((apply K_next (s' := (_, _)) hm); (focus (first | (dsimp only; done) | (dsimp only; rfl) | rfl))) | ((apply K_brk (s' := (_, _)) hm); (focus (first | (dsimp only; done) | (dsimp only; rfl) | rfl))) | (((with_reducible apply K_brkN hm); (focus decide); intro r hm)) | (((with_reducible apply K_brkR hm); intro r hm)) | (((with_reducible apply O_pO hm); (focus (simp only [push_cast, seval]; rfl)); (first | apply s95 _); (any_goals (focus ((repeat' (first | rfl | (with_reducible first | apply ft1 | apply ft2 | apply f_optN | apply f_optS | apply f_some | apply f_tup | apply f_agg | apply f_ptr | apply f_fn | apply dv_slice | apply sv_d | apply f_cons | apply fold_nil | apply fold_cons | apply fold_app | apply f_rowI | apply f_rowY | apply f_rowS | apply f_rowB | apply f_rowL) | (with_reducible apply f_byte; decide))); done))); (any_goals (focus (intro _; rfl))); intro y hm)) | (((with_reducible apply LoopB.of); (focus (first | (dsimp only; done) | (dsimp only; rfl) | rfl)); (focus ((intro _; repeat' (first | with_reducible exact impC_end | with_reducible exact impC_endF | with_reducible refine impC_seq ?_ | with_reducible refine impC_block ?_ | ((with_reducible refine impC_rnd ?_); intro _) | ((with_reducible refine impC_brk ?_); intro _))))); (intro s o hm; first | unfold c43); rotate_left; intro s hm)) | (((apply imp_stT; (repeat' (first | with_reducible exact keepT_nil | with_reducible exact keepC_nil | with_reducible apply keepT_cons | with_reducible apply keepC_cons | ((with_reducible apply svle_eq); (focus (first | (simp only [push_cast, seval]; rfl) | rfl)); (focus ((repeat' (first | rfl | (with_reducible first | apply ft1 | apply ft2 | apply f_optN | apply f_optS | apply f_some | apply f_tup | apply f_agg | apply f_ptr | apply f_fn | apply dv_slice | apply sv_d | apply f_cons | apply fold_nil | apply fold_cons | apply fold_app | apply f_rowI | apply f_rowY | apply f_rowS | apply f_rowB | apply f_rowL) | (with_reducible apply f_byte; decide))); done))) | ((with_reducible apply svle_td); (focus (first | (simp only [push_cast, seval]; rfl) | rfl)); (focus (first | (simp only [push_cast, seval]; rfl) | rfl)); (focus ((repeat' (first | rfl | (with_reducible first | apply ft1 | apply ft2 | apply f_optN | apply f_optS | apply f_some | apply f_tup | apply f_agg | apply f_ptr | apply f_fn | apply dv_slice | apply sv_d | apply f_cons | apply fold_nil | apply fold_cons | apply fold_app | apply f_rowI | apply f_rowY | apply f_rowS | apply f_rowB | apply f_rowL) | (with_reducible apply f_byte; decide))); done))) | ((with_reducible apply chle_eq); (focus (first | (simp only [push_cast, seval]; rfl) | rfl)); (first | with_reducible exact chle_rfl rfl | with_reducible exact chle_map0 | with_reducible apply chle_vec | with_reducible apply chle_box)) | (with_reducible first | apply ct1 | apply ct2 | apply r_shS | apply r_shI | apply r_rflO | apply r_oneO | apply r_appO | apply r_nilO | apply c_ownN | apply c_ownL | apply vc_rfl | apply vc_nil | apply vc_cons | apply r_rfl | apply r_rows | apply r_nil | apply r_app | apply r_cons | apply c_rowI | apply c_rowY | apply c_rowS | apply c_rowB | apply c_rowL))); done))))
noncomputable def m20 (x0 : List T2) : Option ((List T2)) := (w8 x0).1
theorem s16 (x0 : List T2) : ∀ r, m20 x0 = some r → PureSpec Tryz.prog 25 [.slice (List.map r6 x0)] (.slice (List.map r6 r)) := (w8 x0).2
end Go.Proofs.YthailknfgcegoaaGreatDoor

/-
  Bodies of functions and what they compute, printed by programs of mine (wip/tool/gen.py, sc.py) out of the translation; the kernel holds each against the translation.
-/
namespace Go.Proofs.YthailknfgcegoaaGreatDoor
open Go.RowKit
set_option linter.unusedSimpArgs false
set_option linter.unusedVariables false
structure T3 where
  fRef : List UInt8
  fKind : List UInt8
  fVersion : List UInt8
  fSegments : List T2
  deriving DecidableEq
def r7 (x : T3) : List DV := [.str x.fRef, .str x.fKind, .str x.fVersion, .slice (List.map r6 x.fSegments)]
attribute [push_cast] r7
theorem ft3 {d0 d1 d2 d3 : DV} {v0 : List UInt8} {v1 : List UInt8} {v2 : List UInt8} {v3 : List T2} (h0 : d0 = .str v0) (h1 : d1 = .str v1) (h2 : d2 = .str v2) (h3 : d3 = .slice (List.map r6 v3)) : [d0, d1, d2, d3] = r7 ⟨v0, v1, v2, v3⟩ := by unfold r7; simp only [h0, h1, h2, h3, List.cons_append, List.nil_append, List.append_assoc, List.append_nil]
theorem ct3 {d0 d1 d2 d3 : SV} {v0 : List UInt8} {v1 : List UInt8} {v2 : List UInt8} {v3 : List T2} (h0 : svle d0 (.d (.str v0))) (h1 : svle d1 (.d (.str v1))) (h2 : svle d2 (.d (.str v2))) (h3 : svle d3 (.d (.slice (List.map r6 v3)))) : cellsle [d0, d1, d2, d3] (dR (r7 ⟨v0, v1, v2, v3⟩)) := by have h := (cellsle.append (cellsle.consS h0 cellsle.nil) (cellsle.append (cellsle.consS h1 cellsle.nil) (cellsle.append (cellsle.consS h2 cellsle.nil) (cellsle.consS h3 cellsle.nil)))); simpa only [r7, dR, List.map_append, List.map_cons, List.map_nil, List.cons_append, List.nil_append, List.append_assoc, List.append_nil] using h
theorem et3 {d0 d1 d2 d3 : SV} {v0 : List UInt8} {v1 : List UInt8} {v2 : List UInt8} {v3 : List T2} (h0 : d0 = .d (.str v0)) (h1 : d1 = .d (.str v1)) (h2 : d2 = .d (.str v2)) (h3 : d3 = .d (.slice (List.map r6 v3))) : [d0, d1, d2, d3] = dR (r7 ⟨v0, v1, v2, v3⟩) := by simp only [r7, dR, List.map_append, List.map_cons, List.map_nil, List.cons_append, List.nil_append, List.append_assoc, List.append_nil, h0, h1, h2, h3]
structure T4 where
  fRef : List UInt8
  fKind : List UInt8
  fMessages : List T3
  deriving DecidableEq
def r8 (x : T4) : List DV := [.str x.fRef, .str x.fKind, .slice (List.map r7 x.fMessages)]
attribute [push_cast] r8
theorem ft4 {d0 d1 d2 : DV} {v0 : List UInt8} {v1 : List UInt8} {v2 : List T3} (h0 : d0 = .str v0) (h1 : d1 = .str v1) (h2 : d2 = .slice (List.map r7 v2)) : [d0, d1, d2] = r8 ⟨v0, v1, v2⟩ := by unfold r8; simp only [h0, h1, h2, List.cons_append, List.nil_append, List.append_assoc, List.append_nil]
theorem ct4 {d0 d1 d2 : SV} {v0 : List UInt8} {v1 : List UInt8} {v2 : List T3} (h0 : svle d0 (.d (.str v0))) (h1 : svle d1 (.d (.str v1))) (h2 : svle d2 (.d (.slice (List.map r7 v2)))) : cellsle [d0, d1, d2] (dR (r8 ⟨v0, v1, v2⟩)) := by have h := (cellsle.append (cellsle.consS h0 cellsle.nil) (cellsle.append (cellsle.consS h1 cellsle.nil) (cellsle.consS h2 cellsle.nil))); simpa only [r8, dR, List.map_append, List.map_cons, List.map_nil, List.cons_append, List.nil_append, List.append_assoc, List.append_nil] using h
theorem et4 {d0 d1 d2 : SV} {v0 : List UInt8} {v1 : List UInt8} {v2 : List T3} (h0 : d0 = .d (.str v0)) (h1 : d1 = .d (.str v1)) (h2 : d2 = .d (.slice (List.map r7 v2))) : [d0, d1, d2] = dR (r8 ⟨v0, v1, v2⟩) := by simp only [r8, dR, List.map_append, List.map_cons, List.map_nil, List.cons_append, List.nil_append, List.append_assoc, List.append_nil, h0, h1, h2]
structure T5 where
  fRef : List UInt8
  fSender : List UInt8
  fReceiver : List UInt8
  fDay : Int
  fSecond : Int
  fTest : Bool
  fGroups : List T4
  deriving DecidableEq
def r9 (x : T5) : List DV := [.str x.fRef, .str x.fSender, .str x.fReceiver, .int .i64 x.fDay, .int .i64 x.fSecond, .bool x.fTest, .slice (List.map r8 x.fGroups)]
attribute [push_cast] r9
theorem ft5 {d0 d1 d2 d3 d4 d5 d6 : DV} {v0 : List UInt8} {v1 : List UInt8} {v2 : List UInt8} {v3 : Int} {v4 : Int} {v5 : Bool} {v6 : List T4} (h0 : d0 = .str v0) (h1 : d1 = .str v1) (h2 : d2 = .str v2) (h3 : d3 = .int .i64 v3) (h4 : d4 = .int .i64 v4) (h5 : d5 = .bool v5) (h6 : d6 = .slice (List.map r8 v6)) : [d0, d1, d2, d3, d4, d5, d6] = r9 ⟨v0, v1, v2, v3, v4, v5, v6⟩ := by unfold r9; simp only [h0, h1, h2, h3, h4, h5, h6, List.cons_append, List.nil_append, List.append_assoc, List.append_nil]
theorem ct5 {d0 d1 d2 d3 d4 d5 d6 : SV} {v0 : List UInt8} {v1 : List UInt8} {v2 : List UInt8} {v3 : Int} {v4 : Int} {v5 : Bool} {v6 : List T4} (h0 : svle d0 (.d (.str v0))) (h1 : svle d1 (.d (.str v1))) (h2 : svle d2 (.d (.str v2))) (h3 : svle d3 (.d (.int .i64 v3))) (h4 : svle d4 (.d (.int .i64 v4))) (h5 : svle d5 (.d (.bool v5))) (h6 : svle d6 (.d (.slice (List.map r8 v6)))) : cellsle [d0, d1, d2, d3, d4, d5, d6] (dR (r9 ⟨v0, v1, v2, v3, v4, v5, v6⟩)) := by have h := (cellsle.append (cellsle.consS h0 cellsle.nil) (cellsle.append (cellsle.consS h1 cellsle.nil) (cellsle.append (cellsle.consS h2 cellsle.nil) (cellsle.append (cellsle.consS h3 cellsle.nil) (cellsle.append (cellsle.consS h4 cellsle.nil) (cellsle.append (cellsle.consS h5 cellsle.nil) (cellsle.consS h6 cellsle.nil))))))); simpa only [r9, dR, List.map_append, List.map_cons, List.map_nil, List.cons_append, List.nil_append, List.append_assoc, List.append_nil] using h
theorem et5 {d0 d1 d2 d3 d4 d5 d6 : SV} {v0 : List UInt8} {v1 : List UInt8} {v2 : List UInt8} {v3 : Int} {v4 : Int} {v5 : Bool} {v6 : List T4} (h0 : d0 = .d (.str v0)) (h1 : d1 = .d (.str v1)) (h2 : d2 = .d (.str v2)) (h3 : d3 = .d (.int .i64 v3)) (h4 : d4 = .d (.int .i64 v4)) (h5 : d5 = .d (.bool v5)) (h6 : d6 = .d (.slice (List.map r8 v6))) : [d0, d1, d2, d3, d4, d5, d6] = dR (r9 ⟨v0, v1, v2, v3, v4, v5, v6⟩) := by simp only [r9, dR, List.map_append, List.map_cons, List.map_nil, List.cons_append, List.nil_append, List.append_assoc, List.append_nil, h0, h1, h2, h3, h4, h5, h6]
def c46 : SC :=
  (.seq (.reg [.r 6 (.mv (.c (.d (.bool false))))])
  (.seq (.reg (.r 7 (.mv (.t 0)) :: .r 8 (.mv (.t 1)) :: .r 9 (.bin .lss (.t 7) (.t 8)) :: .r 10 (.mv (.t 9)) :: gapp [11, 12, 13] 10 false (.r 11 (.mv (.t 0)) :: .r 12 (.mv (.t 2)) :: .r 13 (.bin .gtr (.t 11) (.t 12)) :: []) (.r 14 (.pick (.t 10) (.c (.d (.bool true))) (.t 13)) :: .r 6 (.mv (.t 14)) :: [])))
  .ret))
theorem k23 : fits Tryz.prog 40 Tryz.f40 c46 [.t 6] 3 = true := by kernel_rfl
def c47 : SC :=
  (.seq (.reg [.r 2 (.boxI (.t 0)),
     .r 3 (.mv (.c (.d (.bool false))))])
  (.seq (.reg [.r 4 (.fld 0 (.t 2)),
     .o 5 (.ld1 (.t 4)),
     .r 6 (.fld 0 (.t 1)),
     .o 7 (.ld1 (.t 6)),
     .r 8 (.bin .eql (.t 5) (.t 7)),
     .r 3 (.mv (.t 8))])
  .ret))
theorem k24 : fits Tryz.prog 83 Tryz.f83 c47 [.t 3] 2 = true := by kernel_rfl
def c48 : SC :=
  (.seq (.reg [.r 9 (.bin .lss (.t 8) (.t 7))])
  (.seq (.cond (.t 9)
    .skip
    (.exit 0))
  (.seq (.block 1 (.seq (.reg [.r 10 (.mv (.t 8)),
       .r 5 (.mv (.t 10))])
    (.seq (.reg [.r 11 (.mv (.t 1)),
       .r 12 (.mv (.t 0)),
       .r 13 (.mv (.t 5)),
       .r 14 (.idx 3 (.t 12) (.t 13)),
       .o 15 (.ldA 3 (.t 14)),
       .c 16 (.t 11) [.t 15]])
    (.cond (.t 16)
      (.seq (.reg [.r 17 (.mv (.t 5)),
         .r 4 (.mv (.t 17))])
      .ret)
      .skip))))
  (.reg [.r 18 (.bin .add (.t 8) (.c (.d (.int .i64 1)))),
     .r 8 (.mv (.t 18))]))))
def c49 : SC := .block 0 (.loop c48)
def c50 : SC :=
  (.seq (.reg [.r 4 (.mv (.c (.d (.int .i64 0))))])
  (.seq (.seq (.reg [.r 6 (.mv (.t 0)),
     .r 7 (.len (.t 6)),
     .r 8 (.mv (.c (.d (.int .i64 0))))])
  c49)
  (.seq (.reg [.r 4 (.mv (.c (.d (.int .i64 (-1)))))])
  .ret)))
theorem k25 : fits Tryz.prog 117 Tryz.f117 c50 [.t 4] 2 = true := by kernel_rfl
def c51 : SC :=
  (.seq (.reg [.r 2 (.boxI (.t 0)),
     .r 3 (.mv (.c (.d (.bool false))))])
  (.seq (.reg [.r 4 (.fld 0 (.t 2)),
     .o 5 (.ld1 (.t 4)),
     .r 6 (.fld 0 (.t 1)),
     .o 7 (.ld1 (.t 6)),
     .r 8 (.bin .eql (.t 5) (.t 7)),
     .r 3 (.mv (.t 8))])
  .ret))
theorem k26 : fits Tryz.prog 119 Tryz.f119 c51 [.t 3] 2 = true := by kernel_rfl
def c52 : SC :=
  (.seq (.reg [.r 9 (.bin .lss (.t 8) (.t 7))])
  (.seq (.cond (.t 9)
    .skip
    (.exit 0))
  (.seq (.block 1 (.seq (.reg [.r 10 (.mv (.t 8)),
       .r 5 (.mv (.t 10))])
    (.seq (.reg [.r 11 (.mv (.t 1)),
       .r 12 (.mv (.t 0)),
       .r 13 (.mv (.t 5)),
       .r 14 (.idx 4 (.t 12) (.t 13)),
       .o 15 (.ldA 4 (.t 14)),
       .c 16 (.t 11) [.t 15]])
    (.cond (.t 16)
      (.seq (.reg [.r 17 (.mv (.t 5)),
         .r 4 (.mv (.t 17))])
      .ret)
      .skip))))
  (.reg [.r 18 (.bin .add (.t 8) (.c (.d (.int .i64 1)))),
     .r 8 (.mv (.t 18))]))))
def c53 : SC := .block 0 (.loop c52)
def c54 : SC :=
  (.seq (.reg [.r 4 (.mv (.c (.d (.int .i64 0))))])
  (.seq (.seq (.reg [.r 6 (.mv (.t 0)),
     .r 7 (.len (.t 6)),
     .r 8 (.mv (.c (.d (.int .i64 0))))])
  c53)
  (.seq (.reg [.r 4 (.mv (.c (.d (.int .i64 (-1)))))])
  .ret)))
theorem k27 : fits Tryz.prog 146 Tryz.f146 c54 [.t 4] 2 = true := by kernel_rfl
def c55 : SC :=
  (.seq (.reg [.r 0 (.mv (.c (.nils)))])
  (.seq (.reg [.r 1 (.bslice 1 [.c (.d (.str [73, 72, 68])), .c (.d (.str [71, 72, 68])), .c (.d (.str [77, 72, 68]))]),
     .r 0 (.mv (.t 1))])
  .ret))
theorem k28 : fits Tryz.prog 121 Tryz.f121 c55 [.t 0] 0 = true := by kernel_rfl
def c56 : SC :=
  (.seq (.reg [.r 9 (.bin .lss (.t 8) (.t 7))])
  (.seq (.cond (.t 9)
    .skip
    (.exit 0))
  (.seq (.block 1 (.seq (.reg [.r 10 (.mv (.t 8)),
       .r 5 (.mv (.t 10))])
    (.seq (.reg [.r 11 (.mv (.t 1)),
       .r 12 (.mv (.t 0)),
       .r 13 (.mv (.t 5)),
       .r 14 (.idx 1 (.t 12) (.t 13)),
       .o 15 (.ld1 (.t 14)),
       .r 16 (.bin .eql (.t 11) (.t 15))])
    (.cond (.t 16)
      (.seq (.reg [.r 17 (.mv (.t 5)),
         .r 4 (.mv (.t 17))])
      .ret)
      .skip))))
  (.reg [.r 18 (.bin .add (.t 8) (.c (.d (.int .i64 1)))),
     .r 8 (.mv (.t 18))]))))
def c57 : SC := .block 0 (.loop c56)
def c58 : SC :=
  (.seq (.reg [.r 4 (.mv (.c (.d (.int .i64 0))))])
  (.seq (.seq (.reg [.r 6 (.mv (.t 0)),
     .r 7 (.len (.t 6)),
     .r 8 (.mv (.c (.d (.int .i64 0))))])
  c57)
  (.seq (.reg [.r 4 (.mv (.c (.d (.int .i64 (-1)))))])
  .ret)))
theorem k29 : fits Tryz.prog 147 Tryz.f147 c58 [.t 4] 2 = true := by kernel_rfl
def c59 : SC :=
  (.seq (.reg [.r 0 (.mv (.c (.nils)))])
  (.seq (.reg [.r 1 (.bslice 1 [.c (.d (.str [73, 84, 82])), .c (.d (.str [71, 84, 82])), .c (.d (.str [77, 84, 82]))]),
     .r 0 (.mv (.t 1))])
  .ret))
theorem k30 : fits Tryz.prog 122 Tryz.f122 c59 [.t 0] 0 = true := by kernel_rfl
def c60 : SC :=
  (.seq (.reg [.r 26 (.bin .lss (.t 25) (.t 24))])
  (.seq (.cond (.t 26)
    .skip
    (.exit 2))
  (.seq (.block 3 (.seq (.reg [.r 27 (.idx 4 (.t 23) (.t 25)),
       .o 28 (.ldA 4 (.t 27)),
       .w 7 (.boxM (.c (.agg [.d (.str []), .d (.str []), .d (.str []), .nils]))),
       .w 0 (.st 4 (.t 7) (.t 28))])
    (.reg [.r 29 (.mv (.t 3)),
       .r 30 (.fld 3 (.t 7)),
       .o 31 (.ld1 (.t 30)),
       .r 32 (.len (.t 31)),
       .r 33 (.bin .add (.c (.d (.int .i64 2))) (.t 32)),
       .r 34 (.bin .add (.t 29) (.t 33)),
       .r 3 (.mv (.t 34))])))
  (.reg [.r 35 (.bin .add (.t 25) (.c (.d (.int .i64 1)))),
     .r 25 (.mv (.t 35))]))))
def c61 : SC := .block 2 (.loop c60)
def c62 : SC :=
  (.seq (.reg [.r 12 (.bin .lss (.t 11) (.t 10))])
  (.seq (.cond (.t 12)
    .skip
    (.exit 0))
  (.seq (.block 1 (.seq (.reg [.r 13 (.idx 3 (.t 9) (.t 11)),
       .o 14 (.ldA 3 (.t 13)),
       .w 5 (.boxM (.c (.agg [.d (.str []), .d (.str []), .nils]))),
       .w 0 (.st 3 (.t 5) (.t 14))])
    (.seq (.reg [.r 15 (.mv (.t 3)),
       .r 16 (.bin .add (.t 15) (.c (.d (.int .i64 2)))),
       .r 3 (.mv (.t 16))])
    (.seq (.reg [.r 17 (.mv (.t 2)),
       .r 18 (.fld 2 (.t 5)),
       .o 19 (.ld1 (.t 18)),
       .r 20 (.len (.t 19)),
       .r 21 (.bin .add (.t 17) (.t 20)),
       .r 2 (.mv (.t 21))])
    (.seq (.reg [.r 22 (.fld 2 (.t 5)),
       .o 23 (.ld1 (.t 22)),
       .r 24 (.len (.t 23)),
       .r 25 (.mv (.c (.d (.int .i64 0))))])
    c61)))))
  (.reg [.r 36 (.bin .add (.t 11) (.c (.d (.int .i64 1)))),
     .r 11 (.mv (.t 36))]))))
def c63 : SC := .block 0 (.loop c62)
def c64 : SC :=
  (.seq (.reg [.r 1 (.boxI (.t 0)),
     .r 2 (.mv (.c (.d (.int .i64 0)))),
     .r 3 (.mv (.c (.d (.int .i64 0))))])
  (.seq (.reg [.r 3 (.mv (.c (.d (.int .i64 2))))])
  (.seq (.seq (.reg [.r 8 (.fld 6 (.t 1)),
     .o 9 (.ld1 (.t 8)),
     .r 10 (.len (.t 9)),
     .r 11 (.mv (.c (.d (.int .i64 0))))])
  c63)
  (.seq (.reg [.r 37 (.mv (.t 2)),
     .r 38 (.mv (.t 3)),
     .r 2 (.mv (.t 37)),
     .r 3 (.mv (.t 38))])
  .ret))))
theorem k31 : fits Tryz.prog 42 Tryz.f42 c64 [.t 2, .t 3] 1 = true := by kernel_rfl
def c65 : SC :=
  (.seq (.seq (.reg [.r 4 (.mv (.t 3)),
     .r 5 (.mv (.t 0)),
     .r 6 (.lenT (.t 5)),
     .r 7 (.bin .lss (.t 4) (.t 6))])
  (.cond (.t 7)
    .skip
    (.exit 0)))
  (.seq (.block 1 (.seq (.reg (.r 10 (.mv (.t 0)) :: .r 11 (.mv (.t 3)) :: .r 12 (.sidx (.t 10) (.t 11)) :: .r 13 (.bin .geq (.t 12) (.c (.d (.int .u8 65)))) :: .r 14 (.mv (.t 13)) :: gapp [15, 16, 17, 18] 14 true (.r 15 (.mv (.t 0)) :: .r 16 (.mv (.t 3)) :: .r 17 (.sidx (.t 15) (.t 16)) :: .r 18 (.bin .leq (.t 17) (.c (.d (.int .u8 90)))) :: []) (.r 19 (.pick (.t 14) (.t 18) (.c (.d (.bool false)))) :: .r 20 (.mv (.t 19)) :: gapp [21, 22, 23, 24, 25, 26, 27, 28, 29, 30] 20 false (.r 21 (.mv (.t 0)) :: .r 22 (.mv (.t 3)) :: .r 23 (.sidx (.t 21) (.t 22)) :: .r 24 (.bin .geq (.t 23) (.c (.d (.int .u8 48)))) :: .r 25 (.mv (.t 24)) :: gapp [26, 27, 28, 29] 25 true (.r 26 (.mv (.t 0)) :: .r 27 (.mv (.t 3)) :: .r 28 (.sidx (.t 26) (.t 27)) :: .r 29 (.bin .leq (.t 28) (.c (.d (.int .u8 57)))) :: []) (.r 30 (.pick (.t 25) (.t 29) (.c (.d (.bool false)))) :: [])) (.r 31 (.pick (.t 20) (.c (.d (.bool true))) (.t 30)) :: .r 32 (.mv (.t 31)) :: gapp [33, 34, 35, 36] 32 false (.r 33 (.mv (.t 0)) :: .r 34 (.mv (.t 3)) :: .r 35 (.sidx (.t 33) (.t 34)) :: .r 36 (.bin .eql (.t 35) (.c (.d (.int .u8 45)))) :: []) (.r 37 (.pick (.t 32) (.c (.d (.bool true))) (.t 36)) :: .r 38 (.not (.t 37)) :: [])))))
    (.cond (.t 38)
      (.seq (.reg [.r 2 (.mv (.c (.d (.bool false))))])
      .ret)
      .skip)))
  (.reg [.r 8 (.mv (.t 3)),
     .r 9 (.bin .add (.t 8) (.c (.d (.int .i64 1)))),
     .r 3 (.mv (.t 9))])))
def c66 : SC := .block 0 (.loop c65)
def c67 : SC :=
  (.seq (.reg [.r 2 (.mv (.c (.d (.bool false))))])
  (.seq (.seq (.reg [.r 3 (.mv (.c (.d (.int .i64 0))))])
  c66)
  (.seq (.reg (.r 39 (.mv (.t 0)) :: .r 40 (.bin .neq (.t 39) (.c (.d (.str [])))) :: .r 41 (.mv (.t 40)) :: gapp [42, 43, 44] 41 true (.r 42 (.mv (.t 0)) :: .r 43 (.lenT (.t 42)) :: .r 44 (.bin .leq (.t 43) (.c (.d (.int .i64 14)))) :: []) (.r 45 (.pick (.t 41) (.t 44) (.c (.d (.bool false)))) :: .r 2 (.mv (.t 45)) :: [])))
  .ret)))
theorem k32 : fits Tryz.prog 43 Tryz.f43 c67 [.t 2] 1 = true := by kernel_rfl
def c68 : SC :=
  (.seq (.seq (.reg [.r 6 (.mv (.t 3)),
     .r 7 (.mv (.t 0)),
     .r 8 (.lenT (.t 7)),
     .r 9 (.bin .lss (.t 6) (.t 8))])
  (.cond (.t 9)
    .skip
    (.exit 0)))
  (.seq (.block 1 (.seq (.reg [.r 12 (.mv (.t 0)),
       .r 13 (.mv (.t 3)),
       .r 14 (.sidx (.t 12) (.t 13)),
       .r 4 (.mv (.t 14))])
    (.seq (.reg (.r 15 (.mv (.t 4)) :: .r 16 (.bin .geq (.t 15) (.c (.d (.int .u8 97)))) :: .r 17 (.mv (.t 16)) :: gapp [18, 19] 17 true (.r 18 (.mv (.t 4)) :: .r 19 (.bin .leq (.t 18) (.c (.d (.int .u8 122)))) :: []) (.r 20 (.pick (.t 17) (.t 19) (.c (.d (.bool false)))) :: .r 5 (.mv (.t 20)) :: [])))
    (.seq (.reg (.r 21 (.mv (.t 5)) :: .r 22 (.not (.t 21)) :: .r 23 (.mv (.t 22)) :: gapp [24, 25, 26, 27, 28, 29, 30, 31, 32, 33, 34, 35, 36, 37, 38] 23 true (.r 24 (.mv (.t 3)) :: .r 25 (.bin .eql (.t 24) (.c (.d (.int .i64 0)))) :: .r 26 (.mv (.t 25)) :: gapp [27, 28, 29, 30, 31, 32, 33, 34, 35, 36, 37] 26 false (.r 27 (.mv (.t 4)) :: .r 28 (.bin .neq (.t 27) (.c (.d (.int .u8 45)))) :: .r 29 (.mv (.t 28)) :: gapp [30, 31, 32, 33, 34, 35, 36] 29 true (.r 30 (.mv (.t 4)) :: .r 31 (.bin .geq (.t 30) (.c (.d (.int .u8 48)))) :: .r 32 (.mv (.t 31)) :: gapp [33, 34] 32 true (.r 33 (.mv (.t 4)) :: .r 34 (.bin .leq (.t 33) (.c (.d (.int .u8 57)))) :: []) (.r 35 (.pick (.t 32) (.t 34) (.c (.d (.bool false)))) :: .r 36 (.not (.t 35)) :: [])) (.r 37 (.pick (.t 29) (.t 36) (.c (.d (.bool false)))) :: [])) (.r 38 (.pick (.t 26) (.c (.d (.bool true))) (.t 37)) :: [])) (.r 39 (.pick (.t 23) (.t 38) (.c (.d (.bool false)))) :: [])))
    (.cond (.t 39)
      (.seq (.reg [.r 2 (.mv (.c (.d (.bool false))))])
      .ret)
      .skip)))))
  (.reg [.r 10 (.mv (.t 3)),
     .r 11 (.bin .add (.t 10) (.c (.d (.int .i64 1)))),
     .r 3 (.mv (.t 11))])))
def c69 : SC := .block 0 (.loop c68)
def c70 : SC :=
  (.seq (.reg [.r 2 (.mv (.c (.d (.bool false))))])
  (.seq (.seq (.reg [.r 3 (.mv (.c (.d (.int .i64 0))))])
  c69)
  (.seq (.reg (.r 40 (.mv (.t 0)) :: .r 41 (.bin .neq (.t 40) (.c (.d (.str [])))) :: .r 42 (.mv (.t 41)) :: gapp [43, 44, 45] 42 true (.r 43 (.mv (.t 0)) :: .r 44 (.lenT (.t 43)) :: .r 45 (.bin .leq (.t 44) (.c (.d (.int .i64 40)))) :: []) (.r 46 (.pick (.t 42) (.t 45) (.c (.d (.bool false)))) :: .r 2 (.mv (.t 46)) :: [])))
  .ret)))
theorem k33 : fits Tryz.prog 44 Tryz.f44 c70 [.t 2] 1 = true := by kernel_rfl
def c71 : SC :=
  (.seq (.reg [.r 2 (.mv (.c (.d (.int .i64 0))))])
  (.seq (.seq (.reg [.r 3 (.mv (.t 0))])
  (.block 0 (.seq (.seq (.reg [.r 5 (.bin .eql (.t 3) (.c (.d (.str [73, 72, 68])))),
       .r 4 (.mv (.t 5))])
    (.cond (.t 4)
      .skip
      (.reg [.r 6 (.bin .eql (.t 3) (.c (.d (.str [73, 84, 82])))),
         .r 4 (.mv (.t 6))])))
    (.cond (.t 4)
      (.seq (.reg [.r 2 (.mv (.c (.d (.int .i64 1))))])
      .ret)
      (.seq (.seq (.reg [.r 8 (.bin .eql (.t 3) (.c (.d (.str [71, 72, 68])))),
         .r 7 (.mv (.t 8))])
      (.cond (.t 7)
        .skip
        (.reg [.r 9 (.bin .eql (.t 3) (.c (.d (.str [71, 84, 82])))),
           .r 7 (.mv (.t 9))])))
      (.cond (.t 7)
        (.seq (.reg [.r 2 (.mv (.c (.d (.int .i64 2))))])
        .ret)
        (.seq (.seq (.reg [.r 11 (.bin .eql (.t 3) (.c (.d (.str [77, 72, 68])))),
           .r 10 (.mv (.t 11))])
        (.cond (.t 10)
          .skip
          (.reg [.r 12 (.bin .eql (.t 3) (.c (.d (.str [77, 84, 82])))),
             .r 10 (.mv (.t 12))])))
        (.cond (.t 10)
          (.seq (.reg [.r 2 (.mv (.c (.d (.int .i64 3))))])
          .ret)
          .skip))))))))
  (.seq (.reg [.r 2 (.mv (.c (.d (.int .i64 0))))])
  .ret)))
theorem k34 : fits Tryz.prog 149 Tryz.f149 c71 [.t 2] 1 = true := by kernel_rfl
set_option maxRecDepth 100000 in
set_option maxHeartbeats 40000000 in
noncomputable def w9 : (∀ (x0 : Int) (x1 : Int) (x2 : Int), {m : Option (Bool) // ∀ r, m = some r → PureSpec Tryz.prog 40 [.int .i64 x0, .int .i64 x1, .int .i64 x2] (.bool r)}) × (∀ (x0 : T4) (y0 : T4), {m : Option (Bool) // ∀ r, m = some r → PureSpec Tryz.prog 83 [.agg (r8 x0), .ptr (r8 y0)] (.bool r)}) × (∀ (x0 : List T4) (f1 : FuncId) (c1 : List DV) (p1 : T4 → Option (Bool)) (h1 : ∀ a0 r, p1 a0 = some r → PureSpec Tryz.prog f1 ([.agg (r8 a0)] ++ c1) (.bool r)), {m : Option (Int) // ∀ r, m = some r → PureSpec Tryz.prog 117 [.slice (List.map r8 x0), .fn f1 c1] (.int .i64 r)}) × (∀ (x0 : T3) (y0 : T3), {m : Option (Bool) // ∀ r, m = some r → PureSpec Tryz.prog 119 [.agg (r7 x0), .ptr (r7 y0)] (.bool r)}) × (∀ (x0 : List T3) (f1 : FuncId) (c1 : List DV) (p1 : T3 → Option (Bool)) (h1 : ∀ a0 r, p1 a0 = some r → PureSpec Tryz.prog f1 ([.agg (r7 a0)] ++ c1) (.bool r)), {m : Option (Int) // ∀ r, m = some r → PureSpec Tryz.prog 146 [.slice (List.map r7 x0), .fn f1 c1] (.int .i64 r)}) × ({m : Option ((List (List UInt8))) // ∀ r, m = some r → PureSpec Tryz.prog 121 [] (.slice (List.map rowS r))}) × (∀ (x0 : List (List UInt8)) (x1 : List UInt8), {m : Option (Int) // ∀ r, m = some r → PureSpec Tryz.prog 147 [.slice (List.map rowS x0), .str x1] (.int .i64 r)}) × ({m : Option ((List (List UInt8))) // ∀ r, m = some r → PureSpec Tryz.prog 122 [] (.slice (List.map rowS r))}) × (∀ (x0 : T5), {m : Option (Int × Int) // ∀ r, m = some r → PureSpec Tryz.prog 42 [.agg (r9 x0)] (.tup [.int .i64 r.1, .int .i64 r.2])}) × (∀ (x0 : List UInt8), {m : Option (Bool) // ∀ r, m = some r → PureSpec Tryz.prog 43 [.str x0] (.bool r)}) × (∀ (x0 : List UInt8), {m : Option (Bool) // ∀ r, m = some r → PureSpec Tryz.prog 44 [.str x0] (.bool r)}) × (∀ (x0 : List UInt8), {m : Option (Int) // ∀ r, m = some r → PureSpec Tryz.prog 149 [.str x0] (.int .i64 r)}) := by
  refine ⟨?g0, ?g1, ?g2, ?g3, ?g4, ?g5, ?g6, ?g7, ?g8, ?g9, ?g10, ?g11⟩
  case' g0 => (intro x0 x1 x2; apply Subtype.mk; intro r hm; apply pure_walk Tryz.func40 k23; unfold c46)
  case' g1 => (intro x0 y0; apply Subtype.mk; intro r hm; apply pure_walk Tryz.func83 k24; unfold c47)
  case' g2 => (intro x0 f1 c1 p1 h1; apply Subtype.mk; intro r hm; apply pure_walk Tryz.func117 k25; unfold c50)
  case' g3 => (intro x0 y0; apply Subtype.mk; intro r hm; apply pure_walk Tryz.func119 k26; unfold c51)
  case' g4 => (intro x0 f1 c1 p1 h1; apply Subtype.mk; intro r hm; apply pure_walk Tryz.func146 k27; unfold c54)
  case' g5 => (apply Subtype.mk; intro r hm; apply pure_walk Tryz.func121 k28; unfold c55)
  case' g6 => (intro x0 x1; apply Subtype.mk; intro r hm; apply pure_walk Tryz.func147 k29; unfold c58)
  case' g7 => (apply Subtype.mk; intro r hm; apply pure_walk Tryz.func122 k30; unfold c59)
  case' g8 => (intro x0; apply Subtype.mk; intro r hm; apply pure_walk Tryz.func42 k31; unfold c64)
  case' g9 => (intro x0; apply Subtype.mk; intro r hm; apply pure_walk Tryz.func43 k32; unfold c67)
  case' g10 => (intro x0; apply Subtype.mk; intro r hm; apply pure_walk Tryz.func44 k33; unfold c70)
  case' g11 => (intro x0; apply Subtype.mk; intro r hm; apply pure_walk Tryz.func149 k34; unfold c71)
  all_goals (repeat' (first | with_reducible refine W_seq ?_ | with_reducible refine W_reg ?_ | with_reducible refine W_block ?_ | with_reducible refine W_skip ?_ | with_reducible refine W_ret ?_ | with_reducible refine W_exit ?_ | with_reducible refine O_nil ?_ | with_reducible refine K_seq ?_ | with_reducible refine K_seqE ?_ | with_reducible refine K_seqR ?_ | with_reducible refine K_block ?_ | with_reducible refine K_blockR ?_ | with_reducible refine K_blockE ?_ | ((with_reducible apply K_blockN); decide) | with_reducible refine O_o2r ?_ | ((with_reducible apply O_idxr hm); (iterate 2 (simp only [push_cast, seval]; rfl)); (intro _; rfl); intro e hm) | ((with_reducible apply O_idxVr hm); (iterate 3 (simp only [push_cast, seval]; rfl)); intro e hm) | ((with_reducible apply O_sidxr hm); (iterate 2 (simp only [push_cast, seval]; rfl)); intro e hm) | ((with_reducible apply O_idxLr hm (row := rowS)); (iterate 2 (simp only [push_cast, seval]; rfl)); (focus ((repeat' (first | rfl | (with_reducible first | apply ft1 | apply ft2 | apply ft4 | apply ft3 | apply ft5 | apply f_optN | apply f_optS | apply f_some | apply f_tup | apply f_agg | apply f_ptr | apply f_fn | apply dv_slice | apply sv_d | apply f_cons | apply fold_nil | apply fold_cons | apply fold_app | apply f_rowI | apply f_rowY | apply f_rowS | apply f_rowB | apply f_rowL) | (with_reducible apply f_byte; decide))); done)); (simp only [push_cast, seval]; rfl); (intro _; rfl); intro e hm) | ((with_reducible apply O_r); (simp only [push_cast, seval]; rfl); (first | exact trivial | omega)) | ((with_reducible apply O_ldV1r hm); (iterate 2 (simp only [push_cast, seval]; rfl)); (intro _; rfl); intro e hm) | ((with_reducible apply O_ldAVr hm); (iterate 2 (simp only [push_cast, seval]; rfl)); (intro _; rfl); intro e hm) | ((with_reducible apply O_strr hm); (iterate 2 (simp only [push_cast, seval]; rfl)); intro hm) | ((with_reducible apply O_and hm); (simp only [push_cast, seval]; rfl); rfl; intro v hm; rotate_left; intro v g hm) | ((with_reducible apply O_or hm); (simp only [push_cast, seval]; rfl); rfl; intro v hm; rotate_left; intro v g hm) | ((with_reducible apply W_condT); (focus (simp only [push_cast, seval]; done))) | ((with_reducible apply W_condF); (focus (simp only [push_cast, seval]; done))) | ((with_reducible apply O_cF hm); (simp only [push_cast, seval]; rfl); (first | apply h1 _); (any_goals ((repeat' (first | rfl | (with_reducible first | apply ft1 | apply ft2 | apply ft4 | apply ft3 | apply ft5 | apply f_optN | apply f_optS | apply f_some | apply f_tup | apply f_agg | apply f_ptr | apply f_fn | apply dv_slice | apply sv_d | apply f_cons | apply fold_nil | apply fold_cons | apply fold_app | apply f_rowI | apply f_rowY | apply f_rowS | apply f_rowB | apply f_rowL) | (with_reducible apply f_byte; decide))); done)); intro x hm) | ((with_reducible apply O_cvS hm); (iterate 2 (simp only [push_cast, seval]; rfl)); (focus (first | exact h1 _)); intro x hm) | ((with_reducible apply O_w); (simp only [push_cast, seval]; rfl); (first | exact trivial | omega)) | ((with_reducible apply O_stVA hm); (iterate 4 (simp only [push_cast, seval]; rfl)); (focus ((repeat' (first | rfl | (with_reducible first | apply ft1 | apply ft2 | apply ft4 | apply ft3 | apply ft5 | apply f_optN | apply f_optS | apply f_some | apply f_tup | apply f_agg | apply f_ptr | apply f_fn | apply dv_slice | apply sv_d | apply f_cons | apply fold_nil | apply fold_cons | apply fold_app | apply f_rowI | apply f_rowY | apply f_rowS | apply f_rowB | apply f_rowL) | (with_reducible apply f_byte; decide))); done)); decide; (intro _; rfl); intro e hm) | ((with_reducible apply S_condB hm); (simp only [push_cast, seval]; rfl); intro hm; rotate_left; intro hm) | ((with_reducible apply K_end2 hm); (focus (simp only [resOf, resL, RV.get, push_cast, seval]; rfl)); (focus (first | (dsimp only; done) | (dsimp only; rfl) | rfl)); (focus ((repeat' (first | rfl | (with_reducible first | apply ft1 | apply ft2 | apply ft4 | apply ft3 | apply ft5 | apply f_optN | apply f_optS | apply f_some | apply f_tup | apply f_agg | apply f_ptr | apply f_fn | apply dv_slice | apply sv_d | apply f_cons | apply fold_nil | apply fold_cons | apply fold_app | apply f_rowI | apply f_rowY | apply f_rowS | apply f_rowB | apply f_rowL) | (with_reducible apply f_byte; decide))); done))) | ((with_reducible apply K_endS hm); (focus (simp only [resOf, resL, RV.get, push_cast, seval]; rfl)); (focus ((repeat' (first | rfl | (with_reducible first | apply ft1 | apply ft2 | apply ft4 | apply ft3 | apply ft5 | apply f_optN | apply f_optS | apply f_some | apply f_tup | apply f_agg | apply f_ptr | apply f_fn | apply dv_slice | apply sv_d | apply f_cons | apply fold_nil | apply fold_cons | apply fold_app | apply f_rowI | apply f_rowY | apply f_rowS | apply f_rowB | apply f_rowL) | (with_reducible apply f_byte; decide))); done))) | ((with_reducible apply K_bool hm); (simp only [push_cast, seval]; rfl)) | ((with_reducible apply K_leave hm); intro r hm) | ((with_reducible apply K_leaveR hm); intro r hm) | ((apply S_loopY (b := 0) (X := c49) (x := c48) rfl (fun (c : SV × SV × SV) (s : Int) => st [(0, c.1), (1, c.2.1), (7, c.2.2), (8, .d (.int .i64 s))] []) (c := (_, _, _)) (s0 := _) hm); (focus (first | (dsimp only; done) | (dsimp only; rfl) | rfl)); (with_reducible refine Then.mk ?_ ?_)) | ((apply S_loopY (b := 0) (X := c53) (x := c52) rfl (fun (c : SV × SV × SV) (s : Int) => st [(0, c.1), (1, c.2.1), (7, c.2.2), (8, .d (.int .i64 s))] []) (c := (_, _, _)) (s0 := _) hm); (focus (first | (dsimp only; done) | (dsimp only; rfl) | rfl)); (with_reducible refine Then.mk ?_ ?_)) | ((apply S_loopY (b := 0) (X := c57) (x := c56) rfl (fun (c : SV × SV × SV) (s : Int) => st [(0, c.1), (1, c.2.1), (7, c.2.2), (8, .d (.int .i64 s))] []) (c := (_, _, _)) (s0 := _) hm); (focus (first | (dsimp only; done) | (dsimp only; rfl) | rfl)); (with_reducible refine Then.mk ?_ ?_)) | ((apply S_loopY (b := 2) (X := c61) (x := c60) rfl (fun (c : SV × SV × SV × SV × SV × SV) (s : Int × Int) => st [(2, c.1), (3, .d (.int .i64 s.1)), (9, c.2.1), (10, c.2.2.1), (11, c.2.2.2.1), (23, c.2.2.2.2.1), (24, c.2.2.2.2.2), (25, .d (.int .i64 s.2))] []) (c := (_, _, _, _, _, _)) (s0 := (_, _)) hm); (focus (first | (dsimp only; done) | (dsimp only; rfl) | rfl)); (with_reducible refine Then.mk ?_ ?_)) | ((apply S_loopY (b := 0) (X := c63) (x := c62) rfl (fun (c : SV × SV) (s : Int × Int × Int) => st [(2, .d (.int .i64 s.1)), (3, .d (.int .i64 s.2.1)), (9, c.1), (10, c.2), (11, .d (.int .i64 s.2.2))] []) (c := (_, _)) (s0 := (_, _, _)) hm); (focus (first | (dsimp only; done) | (dsimp only; rfl) | rfl)); (with_reducible refine Then.mk ?_ ?_)) | ((apply S_loopY (b := 0) (X := c66) (x := c65) rfl (fun (c : SV) (s : Int) => st [(0, c), (3, .d (.int .i64 s))] []) (c := _) (s0 := _) hm); (focus (first | (dsimp only; done) | (dsimp only; rfl) | rfl)); (with_reducible refine Then.mk ?_ ?_)) | ((apply S_loopY (b := 0) (X := c69) (x := c68) rfl (fun (c : SV) (s : Int) => st [(0, c), (3, .d (.int .i64 s))] []) (c := _) (s0 := _) hm); (focus (first | (dsimp only; done) | (dsimp only; rfl) | rfl)); (with_reducible refine Then.mk ?_ ?_)) | ((apply K_next (s' := (_, _, _)) hm); (focus (first | (dsimp only; done) | (dsimp only; rfl) | rfl))) | ((apply K_brk (s' := (_, _, _)) hm); (focus (first | (dsimp only; done) | (dsimp only; rfl) | rfl))) | ((apply K_next (s' := (_, _)) hm); (focus (first | (dsimp only; done) | (dsimp only; rfl) | rfl))) | ((apply K_brk (s' := (_, _)) hm); (focus (first | (dsimp only; done) | (dsimp only; rfl) | rfl))) | ((apply K_next (s' := _) hm); (focus (first | (dsimp only; done) | (dsimp only; rfl) | rfl))) | ((apply K_brk (s' := _) hm); (focus (first | (dsimp only; done) | (dsimp only; rfl) | rfl))) | (((with_reducible apply K_brkN hm); (focus decide); intro r hm)) | (((with_reducible apply K_brkR hm); intro r hm)) | (((with_reducible apply LoopB.of); (focus (first | (dsimp only; done) | (dsimp only; rfl) | rfl)); (focus ((intro _; repeat' (first | with_reducible exact impC_end | with_reducible exact impC_endF | with_reducible refine impC_seq ?_ | with_reducible refine impC_block ?_ | ((with_reducible refine impC_rnd ?_); intro _) | ((with_reducible refine impC_brk ?_); intro _))))); (intro s o hm; first | unfold c48 | unfold c52 | unfold c56 | unfold c60 | unfold c62 | unfold c65 | unfold c68); rotate_left; intro s hm)) | (((apply imp_stT; (repeat' (first | with_reducible exact keepT_nil | with_reducible exact keepC_nil | with_reducible apply keepT_cons | with_reducible apply keepC_cons | ((with_reducible apply svle_eq); (focus (first | (simp only [push_cast, seval]; rfl) | rfl)); (focus ((repeat' (first | rfl | (with_reducible first | apply ft1 | apply ft2 | apply ft4 | apply ft3 | apply ft5 | apply f_optN | apply f_optS | apply f_some | apply f_tup | apply f_agg | apply f_ptr | apply f_fn | apply dv_slice | apply sv_d | apply f_cons | apply fold_nil | apply fold_cons | apply fold_app | apply f_rowI | apply f_rowY | apply f_rowS | apply f_rowB | apply f_rowL) | (with_reducible apply f_byte; decide))); done))) | ((with_reducible apply svle_td); (focus (first | (simp only [push_cast, seval]; rfl) | rfl)); (focus (first | (simp only [push_cast, seval]; rfl) | rfl)); (focus ((repeat' (first | rfl | (with_reducible first | apply ft1 | apply ft2 | apply ft4 | apply ft3 | apply ft5 | apply f_optN | apply f_optS | apply f_some | apply f_tup | apply f_agg | apply f_ptr | apply f_fn | apply dv_slice | apply sv_d | apply f_cons | apply fold_nil | apply fold_cons | apply fold_app | apply f_rowI | apply f_rowY | apply f_rowS | apply f_rowB | apply f_rowL) | (with_reducible apply f_byte; decide))); done))) | ((with_reducible apply chle_eq); (focus (first | (simp only [push_cast, seval]; rfl) | rfl)); (first | with_reducible exact chle_rfl rfl | with_reducible exact chle_map0 | with_reducible apply chle_vec | with_reducible apply chle_box)) | (with_reducible first | apply ct1 | apply ct2 | apply ct4 | apply ct3 | apply ct5 | apply r_shS | apply r_shI | apply r_rflO | apply r_oneO | apply r_appO | apply r_nilO | apply c_ownN | apply c_ownL | apply vc_rfl | apply vc_nil | apply vc_cons | apply r_rfl | apply r_rows | apply r_nil | apply r_app | apply r_cons | apply c_rowI | apply c_rowY | apply c_rowS | apply c_rowB | apply c_rowL))); done)))))
noncomputable def m21 (x0 : Int) (x1 : Int) (x2 : Int) : Option (Bool) := (w9.1 x0 x1 x2).1
theorem s17 (x0 : Int) (x1 : Int) (x2 : Int) : ∀ r, m21 x0 x1 x2 = some r → PureSpec Tryz.prog 40 [.int .i64 x0, .int .i64 x1, .int .i64 x2] (.bool r) := (w9.1 x0 x1 x2).2
noncomputable def m22 (x0 : T4) (y0 : T4) : Option (Bool) := (w9.2.1 x0 y0).1
theorem s18 (x0 : T4) (y0 : T4) : ∀ r, m22 x0 y0 = some r → PureSpec Tryz.prog 83 [.agg (r8 x0), .ptr (r8 y0)] (.bool r) := (w9.2.1 x0 y0).2
noncomputable def m23 (x0 : List T4) (f1 : FuncId) (c1 : List DV) (p1 : T4 → Option (Bool)) (h1 : ∀ a0 r, p1 a0 = some r → PureSpec Tryz.prog f1 ([.agg (r8 a0)] ++ c1) (.bool r)) : Option (Int) := (w9.2.2.1 x0 f1 c1 p1 h1).1
theorem s19 (x0 : List T4) (f1 : FuncId) (c1 : List DV) (p1 : T4 → Option (Bool)) (h1 : ∀ a0 r, p1 a0 = some r → PureSpec Tryz.prog f1 ([.agg (r8 a0)] ++ c1) (.bool r)) : ∀ r, m23 x0 f1 c1 p1 h1 = some r → PureSpec Tryz.prog 117 [.slice (List.map r8 x0), .fn f1 c1] (.int .i64 r) := (w9.2.2.1 x0 f1 c1 p1 h1).2
noncomputable def m24 (x0 : T3) (y0 : T3) : Option (Bool) := (w9.2.2.2.1 x0 y0).1
theorem s20 (x0 : T3) (y0 : T3) : ∀ r, m24 x0 y0 = some r → PureSpec Tryz.prog 119 [.agg (r7 x0), .ptr (r7 y0)] (.bool r) := (w9.2.2.2.1 x0 y0).2
noncomputable def m25 (x0 : List T3) (f1 : FuncId) (c1 : List DV) (p1 : T3 → Option (Bool)) (h1 : ∀ a0 r, p1 a0 = some r → PureSpec Tryz.prog f1 ([.agg (r7 a0)] ++ c1) (.bool r)) : Option (Int) := (w9.2.2.2.2.1 x0 f1 c1 p1 h1).1
theorem s21 (x0 : List T3) (f1 : FuncId) (c1 : List DV) (p1 : T3 → Option (Bool)) (h1 : ∀ a0 r, p1 a0 = some r → PureSpec Tryz.prog f1 ([.agg (r7 a0)] ++ c1) (.bool r)) : ∀ r, m25 x0 f1 c1 p1 h1 = some r → PureSpec Tryz.prog 146 [.slice (List.map r7 x0), .fn f1 c1] (.int .i64 r) := (w9.2.2.2.2.1 x0 f1 c1 p1 h1).2
noncomputable def m26 : Option ((List (List UInt8))) := (w9.2.2.2.2.2.1 ).1
theorem s22 : ∀ r, m26  = some r → PureSpec Tryz.prog 121 [] (.slice (List.map rowS r)) := (w9.2.2.2.2.2.1 ).2
noncomputable def m27 (x0 : List (List UInt8)) (x1 : List UInt8) : Option (Int) := (w9.2.2.2.2.2.2.1 x0 x1).1
theorem s23 (x0 : List (List UInt8)) (x1 : List UInt8) : ∀ r, m27 x0 x1 = some r → PureSpec Tryz.prog 147 [.slice (List.map rowS x0), .str x1] (.int .i64 r) := (w9.2.2.2.2.2.2.1 x0 x1).2
noncomputable def m28 : Option ((List (List UInt8))) := (w9.2.2.2.2.2.2.2.1 ).1
theorem s24 : ∀ r, m28  = some r → PureSpec Tryz.prog 122 [] (.slice (List.map rowS r)) := (w9.2.2.2.2.2.2.2.1 ).2
noncomputable def m29 (x0 : T5) : Option (Int × Int) := (w9.2.2.2.2.2.2.2.2.1 x0).1
theorem s25 (x0 : T5) : ∀ r, m29 x0 = some r → PureSpec Tryz.prog 42 [.agg (r9 x0)] (.tup [.int .i64 r.1, .int .i64 r.2]) := (w9.2.2.2.2.2.2.2.2.1 x0).2
noncomputable def m30 (x0 : List UInt8) : Option (Bool) := (w9.2.2.2.2.2.2.2.2.2.1 x0).1
theorem s26 (x0 : List UInt8) : ∀ r, m30 x0 = some r → PureSpec Tryz.prog 43 [.str x0] (.bool r) := (w9.2.2.2.2.2.2.2.2.2.1 x0).2
noncomputable def m31 (x0 : List UInt8) : Option (Bool) := (w9.2.2.2.2.2.2.2.2.2.2.1 x0).1
theorem s27 (x0 : List UInt8) : ∀ r, m31 x0 = some r → PureSpec Tryz.prog 44 [.str x0] (.bool r) := (w9.2.2.2.2.2.2.2.2.2.2.1 x0).2
noncomputable def m32 (x0 : List UInt8) : Option (Int) := (w9.2.2.2.2.2.2.2.2.2.2.2 x0).1
theorem s28 (x0 : List UInt8) : ∀ r, m32 x0 = some r → PureSpec Tryz.prog 149 [.str x0] (.int .i64 r) := (w9.2.2.2.2.2.2.2.2.2.2.2 x0).2
def c72 : SC :=
  (.seq (.reg [.r 2 (.mv (.c (.d (.bool false))))])
  (.seq (.reg (.r 3 (.mv (.t 0)) :: .r 4 (.lenT (.t 3)) :: .r 5 (.bin .geq (.t 4) (.c (.d (.int .i64 1)))) :: .r 6 (.mv (.t 5)) :: gapp [7, 8, 9] 6 true (.r 7 (.mv (.t 0)) :: .r 8 (.lenT (.t 7)) :: .r 9 (.bin .leq (.t 8) (.c (.d (.int .i64 14)))) :: []) (.r 10 (.pick (.t 6) (.t 9) (.c (.d (.bool false)))) :: .r 11 (.mv (.t 10)) :: gapp [12, 13, 14] 11 true (.r 12 (.mv (.t 0)) :: .c 13 (.f 81) [.t 12, .c (.d (.str [65, 66, 67, 68, 69, 70, 71, 72, 73, 74, 75, 76, 77, 78, 79, 80, 81, 82, 83, 84, 85, 86, 87, 88, 89, 90, 48, 49, 50, 51, 52, 53, 54, 55, 56, 57, 45]))] :: .r 14 (.bin .eql (.t 13) (.c (.d (.str [])))) :: []) (.r 15 (.pick (.t 11) (.t 14) (.c (.d (.bool false)))) :: .r 2 (.mv (.t 15)) :: []))))
  .ret))
theorem k35 : fits Tryz.prog 37 Tryz.f37 c72 [.t 2] 1 = true := by kernel_rfl
def c73 : SC :=
  (.seq (.reg [.r 2 (.mv (.c (.d (.bool false))))])
  (.seq (.seq (.reg (.r 3 (.mv (.t 0)) :: .r 4 (.lenT (.t 3)) :: .r 5 (.bin .lss (.t 4) (.c (.d (.int .i64 1)))) :: .r 6 (.mv (.t 5)) :: gapp [7, 8, 9] 6 false (.r 7 (.mv (.t 0)) :: .r 8 (.lenT (.t 7)) :: .r 9 (.bin .gtr (.t 8) (.c (.d (.int .i64 40)))) :: []) (.r 10 (.pick (.t 6) (.c (.d (.bool true))) (.t 9)) :: .r 11 (.mv (.t 10)) :: gapp [12, 13, 14] 11 false (.r 12 (.mv (.t 0)) :: .r 13 (.sidx (.t 12) (.c (.d (.int .i64 0)))) :: .r 14 (.bin .lss (.t 13) (.c (.d (.int .u8 97)))) :: []) (.r 15 (.pick (.t 11) (.c (.d (.bool true))) (.t 14)) :: .r 16 (.mv (.t 15)) :: gapp [17, 18, 19] 16 false (.r 17 (.mv (.t 0)) :: .r 18 (.sidx (.t 17) (.c (.d (.int .i64 0)))) :: .r 19 (.bin .gtr (.t 18) (.c (.d (.int .u8 122)))) :: []) (.r 20 (.pick (.t 16) (.c (.d (.bool true))) (.t 19)) :: [])))))
  (.cond (.t 20)
    (.seq (.reg [.r 2 (.mv (.c (.d (.bool false))))])
    .ret)
    .skip))
  (.seq (.reg [.r 21 (.mv (.t 0)),
     .c 22 (.f 81) [.t 21, .c (.d (.str [97, 98, 99, 100, 101, 102, 103, 104, 105, 106, 107, 108, 109, 110, 111, 112, 113, 114, 115, 116, 117, 118, 119, 120, 121, 122, 48, 49, 50, 51, 52, 53, 54, 55, 56, 57, 45]))],
     .r 23 (.bin .eql (.t 22) (.c (.d (.str [])))),
     .r 2 (.mv (.t 23))])
  .ret)))
theorem k36 : fits Tryz.prog 38 Tryz.f38 c73 [.t 2] 1 = true := by kernel_rfl
def c74 : SC :=
  (.seq (.reg [.r 2 (.mv (.c (.d (.bool false))))])
  (.seq (.reg [.r 3 (.mv (.t 0)),
     .c 4 (.f 40) [.t 3, .c (.d (.int .i64 1)), .c (.d (.int .i64 3652059))],
     .r 5 (.not (.t 4)),
     .r 2 (.mv (.t 5))])
  .ret))
theorem k37 : fits Tryz.prog 39 Tryz.f39 c74 [.t 2] 1 = true := by kernel_rfl
def c75 : SC :=
  (.seq (.reg [.r 4 (.mv (.c (.d (.bool false))))])
  (.seq (.reg [.r 5 (.mv (.t 0)),
     .r 6 (.mv (.t 1)),
     .c 7 (.f 117) [.t 5, .t 6],
     .r 8 (.bin .geq (.t 7) (.c (.d (.int .i64 0)))),
     .r 4 (.mv (.t 8))])
  .ret))
theorem k38 : fits Tryz.prog 82 Tryz.f82 c75 [.t 4] 2 = true := by kernel_rfl
def c76 : SC :=
  (.seq (.reg [.r 4 (.mv (.c (.d (.bool false))))])
  (.seq (.reg [.r 5 (.mv (.t 0)),
     .r 6 (.mv (.t 1)),
     .c 7 (.f 146) [.t 5, .t 6],
     .r 8 (.bin .geq (.t 7) (.c (.d (.int .i64 0)))),
     .r 4 (.mv (.t 8))])
  .ret))
theorem k39 : fits Tryz.prog 118 Tryz.f118 c76 [.t 4] 2 = true := by kernel_rfl
def c77 : SC :=
  (.seq (.reg [.r 4 (.mv (.c (.d (.bool false))))])
  (.seq (.reg [.r 5 (.mv (.t 0)),
     .r 6 (.mv (.t 1)),
     .c 7 (.f 147) [.t 5, .t 6],
     .r 8 (.bin .geq (.t 7) (.c (.d (.int .i64 0)))),
     .r 4 (.mv (.t 8))])
  .ret))
theorem k40 : fits Tryz.prog 120 Tryz.f120 c77 [.t 4] 2 = true := by kernel_rfl
def c78 : SC :=
  (.seq (.reg [.r 2 (.mv (.c (.d (.bool false))))])
  (.seq (.reg [.r 3 (.mv (.t 0)),
     .c 4 (.f 149) [.t 3],
     .r 5 (.bin .gtr (.t 4) (.c (.d (.int .i64 0)))),
     .r 2 (.mv (.t 5))])
  .ret))
theorem k41 : fits Tryz.prog 124 Tryz.f124 c78 [.t 2] 1 = true := by kernel_rfl
set_option maxRecDepth 100000 in
set_option maxHeartbeats 40000000 in
noncomputable def w10 : (∀ (x0 : List UInt8), {m : Option (Bool) // ∀ r, m = some r → PureSpec Tryz.prog 37 [.str x0] (.bool r)}) × (∀ (x0 : List UInt8), {m : Option (Bool) // ∀ r, m = some r → PureSpec Tryz.prog 38 [.str x0] (.bool r)}) × (∀ (x0 : Int), {m : Option (Bool) // ∀ r, m = some r → PureSpec Tryz.prog 39 [.int .i64 x0] (.bool r)}) × (∀ (x0 : List T4) (f1 : FuncId) (c1 : List DV) (p1 : T4 → Option (Bool)) (h1 : ∀ a0 r, p1 a0 = some r → PureSpec Tryz.prog f1 ([.agg (r8 a0)] ++ c1) (.bool r)), {m : Option (Bool) // ∀ r, m = some r → PureSpec Tryz.prog 82 [.slice (List.map r8 x0), .fn f1 c1] (.bool r)}) × (∀ (x0 : List T3) (f1 : FuncId) (c1 : List DV) (p1 : T3 → Option (Bool)) (h1 : ∀ a0 r, p1 a0 = some r → PureSpec Tryz.prog f1 ([.agg (r7 a0)] ++ c1) (.bool r)), {m : Option (Bool) // ∀ r, m = some r → PureSpec Tryz.prog 118 [.slice (List.map r7 x0), .fn f1 c1] (.bool r)}) × (∀ (x0 : List (List UInt8)) (x1 : List UInt8), {m : Option (Bool) // ∀ r, m = some r → PureSpec Tryz.prog 120 [.slice (List.map rowS x0), .str x1] (.bool r)}) × (∀ (x0 : List UInt8), {m : Option (Bool) // ∀ r, m = some r → PureSpec Tryz.prog 124 [.str x0] (.bool r)}) := by
  refine ⟨?g0, ?g1, ?g2, ?g3, ?g4, ?g5, ?g6⟩
  case' g0 => (intro x0; apply Subtype.mk; intro r hm; apply pure_walk Tryz.func37 k35; unfold c72)
  case' g1 => (intro x0; apply Subtype.mk; intro r hm; apply pure_walk Tryz.func38 k36; unfold c73)
  case' g2 => (intro x0; apply Subtype.mk; intro r hm; apply pure_walk Tryz.func39 k37; unfold c74)
  case' g3 => (intro x0 f1 c1 p1 h1; apply Subtype.mk; intro r hm; apply pure_walk Tryz.func82 k38; unfold c75)
  case' g4 => (intro x0 f1 c1 p1 h1; apply Subtype.mk; intro r hm; apply pure_walk Tryz.func118 k39; unfold c76)
  case' g5 => (intro x0 x1; apply Subtype.mk; intro r hm; apply pure_walk Tryz.func120 k40; unfold c77)
  case' g6 => (intro x0; apply Subtype.mk; intro r hm; apply pure_walk Tryz.func124 k41; unfold c78)
  all_goals (repeat' (first | with_reducible refine W_seq ?_ | with_reducible refine W_reg ?_ | with_reducible refine W_block ?_ | with_reducible refine W_skip ?_ | with_reducible refine W_ret ?_ | with_reducible refine W_exit ?_ | with_reducible refine O_nil ?_ | with_reducible refine K_seq ?_ | with_reducible refine K_seqE ?_ | with_reducible refine K_seqR ?_ | with_reducible refine K_block ?_ | with_reducible refine K_blockR ?_ | with_reducible refine K_blockE ?_ | ((with_reducible apply K_blockN); decide) | ((with_reducible apply O_sidxr hm); (iterate 2 (simp only [push_cast, seval]; rfl)); intro e hm) | ((with_reducible apply O_r); (simp only [push_cast, seval]; rfl); (first | exact trivial | omega)) | ((with_reducible apply O_and hm); (simp only [push_cast, seval]; rfl); rfl; intro v hm; rotate_left; intro v g hm) | ((with_reducible apply O_or hm); (simp only [push_cast, seval]; rfl); rfl; intro v hm; rotate_left; intro v g hm) | ((with_reducible apply W_condT); (focus (simp only [push_cast, seval]; done))) | ((with_reducible apply W_condF); (focus (simp only [push_cast, seval]; done))) | ((with_reducible apply O_cF hm); (simp only [push_cast, seval]; rfl); (first | apply s97 _ _ | apply s17 _ _ _ | apply s19 _ _ _ _ h1 | apply h1 _ | apply s21 _ _ _ _ h1 | apply s23 _ _ | apply s28 _); (any_goals ((repeat' (first | rfl | (with_reducible first | apply ft1 | apply ft2 | apply ft4 | apply ft3 | apply f_optN | apply f_optS | apply f_some | apply f_tup | apply f_agg | apply f_ptr | apply f_fn | apply dv_slice | apply sv_d | apply f_cons | apply fold_nil | apply fold_cons | apply fold_app | apply f_rowI | apply f_rowY | apply f_rowS | apply f_rowB | apply f_rowL) | (with_reducible apply f_byte; decide))); done)); intro x hm) | ((with_reducible apply S_condB hm); (simp only [push_cast, seval]; rfl); intro hm; rotate_left; intro hm) | ((with_reducible apply K_endS hm); (focus (simp only [resOf, resL, RV.get, push_cast, seval]; rfl)); (focus ((repeat' (first | rfl | (with_reducible first | apply ft1 | apply ft2 | apply ft4 | apply ft3 | apply f_optN | apply f_optS | apply f_some | apply f_tup | apply f_agg | apply f_ptr | apply f_fn | apply dv_slice | apply sv_d | apply f_cons | apply fold_nil | apply fold_cons | apply fold_app | apply f_rowI | apply f_rowY | apply f_rowS | apply f_rowB | apply f_rowL) | (with_reducible apply f_byte; decide))); done))) | ((with_reducible apply K_bool hm); (simp only [push_cast, seval]; rfl))))
noncomputable def m33 (x0 : List UInt8) : Option (Bool) := (w10.1 x0).1
theorem s29 (x0 : List UInt8) : ∀ r, m33 x0 = some r → PureSpec Tryz.prog 37 [.str x0] (.bool r) := (w10.1 x0).2
noncomputable def m34 (x0 : List UInt8) : Option (Bool) := (w10.2.1 x0).1
theorem s30 (x0 : List UInt8) : ∀ r, m34 x0 = some r → PureSpec Tryz.prog 38 [.str x0] (.bool r) := (w10.2.1 x0).2
noncomputable def m35 (x0 : Int) : Option (Bool) := (w10.2.2.1 x0).1
theorem s31 (x0 : Int) : ∀ r, m35 x0 = some r → PureSpec Tryz.prog 39 [.int .i64 x0] (.bool r) := (w10.2.2.1 x0).2
noncomputable def m36 (x0 : List T4) (f1 : FuncId) (c1 : List DV) (p1 : T4 → Option (Bool)) (h1 : ∀ a0 r, p1 a0 = some r → PureSpec Tryz.prog f1 ([.agg (r8 a0)] ++ c1) (.bool r)) : Option (Bool) := (w10.2.2.2.1 x0 f1 c1 p1 h1).1
theorem s32 (x0 : List T4) (f1 : FuncId) (c1 : List DV) (p1 : T4 → Option (Bool)) (h1 : ∀ a0 r, p1 a0 = some r → PureSpec Tryz.prog f1 ([.agg (r8 a0)] ++ c1) (.bool r)) : ∀ r, m36 x0 f1 c1 p1 h1 = some r → PureSpec Tryz.prog 82 [.slice (List.map r8 x0), .fn f1 c1] (.bool r) := (w10.2.2.2.1 x0 f1 c1 p1 h1).2
noncomputable def m37 (x0 : List T3) (f1 : FuncId) (c1 : List DV) (p1 : T3 → Option (Bool)) (h1 : ∀ a0 r, p1 a0 = some r → PureSpec Tryz.prog f1 ([.agg (r7 a0)] ++ c1) (.bool r)) : Option (Bool) := (w10.2.2.2.2.1 x0 f1 c1 p1 h1).1
theorem s33 (x0 : List T3) (f1 : FuncId) (c1 : List DV) (p1 : T3 → Option (Bool)) (h1 : ∀ a0 r, p1 a0 = some r → PureSpec Tryz.prog f1 ([.agg (r7 a0)] ++ c1) (.bool r)) : ∀ r, m37 x0 f1 c1 p1 h1 = some r → PureSpec Tryz.prog 118 [.slice (List.map r7 x0), .fn f1 c1] (.bool r) := (w10.2.2.2.2.1 x0 f1 c1 p1 h1).2
noncomputable def m38 (x0 : List (List UInt8)) (x1 : List UInt8) : Option (Bool) := (w10.2.2.2.2.2.1 x0 x1).1
theorem s34 (x0 : List (List UInt8)) (x1 : List UInt8) : ∀ r, m38 x0 x1 = some r → PureSpec Tryz.prog 120 [.slice (List.map rowS x0), .str x1] (.bool r) := (w10.2.2.2.2.2.1 x0 x1).2
noncomputable def m39 (x0 : List UInt8) : Option (Bool) := (w10.2.2.2.2.2.2 x0).1
theorem s35 (x0 : List UInt8) : ∀ r, m39 x0 = some r → PureSpec Tryz.prog 124 [.str x0] (.bool r) := (w10.2.2.2.2.2.2 x0).2
def c79 : SC :=
  (.seq (.reg [.r 35 (.bin .lss (.t 34) (.t 33))])
  (.seq (.cond (.t 35)
    .skip
    (.exit 0))
  (.seq (.block 1 (.seq (.reg [.r 36 (.idx 2 (.t 32) (.t 34)),
       .o 37 (.ldA 2 (.t 36)),
       .w 7 (.boxM (.c (.agg [.d (.str []), .nils]))),
       .w 0 (.st 2 (.t 7) (.t 37))])
    (.seq (.regD (.c 38 (.f 121) [] :: .r 39 (.fld 0 (.t 7)) :: .r 40 (.ld1 (.t 39)) :: .c 41 (.f 120) [.t 38, .t 40] :: .r 42 (.mv (.t 41)) :: gapp [43, 44, 45, 46] 42 false (.c 43 (.f 122) [] :: .r 44 (.fld 0 (.t 7)) :: .r 45 (.ld1 (.t 44)) :: .c 46 (.f 120) [.t 43, .t 45] :: []) (.r 47 (.pick (.t 42) (.c (.d (.bool true))) (.t 46)) :: [])))
    (.cond (.t 47)
      (.seq (.reg [.r 4 (.mv (.c (.d (.int .i64 4))))])
      .ret)
      .skip))))
  (.reg [.r 48 (.bin .add (.t 34) (.c (.d (.int .i64 1)))),
     .r 34 (.mv (.t 48))]))))
def c80 : SC := .block 0 (.loop c79)
def c81 : SC :=
  (.seq (.reg [.r 2 (.boxI (.t 0)),
     .r 4 (.mv (.c (.d (.int .i64 0))))])
  (.seq (.seq (.reg [.r 8 (.fld 0 (.t 2)),
     .o 9 (.ld1 (.t 8)),
     .c 10 (.f 37) [.t 9],
     .r 11 (.not (.t 10))])
  (.cond (.t 11)
    (.seq (.reg [.r 4 (.mv (.c (.d (.int .i64 3))))])
    .ret)
    .skip))
  (.seq (.seq (.reg (.r 12 (.fld 1 (.t 2)) :: .o 13 (.ld1 (.t 12)) :: .c 14 (.f 38) [.t 13] :: .r 15 (.not (.t 14)) :: .r 16 (.mv (.t 15)) :: gapp [17, 18, 19, 20] 16 false (.r 17 (.fld 2 (.t 2)) :: .r 18 (.ld1 (.t 17)) :: .c 19 (.f 38) [.t 18] :: .r 20 (.not (.t 19)) :: []) (.r 21 (.pick (.t 16) (.c (.d (.bool true))) (.t 20)) :: [])))
  (.cond (.t 21)
    (.seq (.reg [.r 4 (.mv (.c (.d (.int .i64 5))))])
    .ret)
    .skip))
  (.seq (.seq (.reg [.r 22 (.mv (.t 1)),
     .r 23 (.mkfn 119 [.t 2]),
     .c 24 (.f 118) [.t 22, .t 23]])
  (.cond (.t 24)
    (.seq (.reg [.r 4 (.mv (.c (.d (.int .i64 7))))])
    .ret)
    .skip))
  (.seq (.seq (.reg [.r 25 (.fld 3 (.t 2)),
     .o 26 (.ld1 (.t 25)),
     .c 27 (.f 105) [.t 26],
     .r 5 (.mv (.t 27))])
  (.seq (.reg [.r 28 (.mv (.t 5)),
     .r 29 (.bin .neq (.t 28) (.c (.d (.int .i64 0))))])
  (.cond (.t 29)
    (.seq (.reg [.r 30 (.mv (.t 5)),
       .r 4 (.mv (.t 30))])
    .ret)
    .skip)))
  (.seq (.seq (.reg [.r 31 (.fld 3 (.t 2)),
     .o 32 (.ld1 (.t 31)),
     .r 33 (.len (.t 32)),
     .r 34 (.mv (.c (.d (.int .i64 0))))])
  c80)
  (.seq (.reg [.r 4 (.mv (.c (.d (.int .i64 0))))])
  .ret)))))))
theorem k42 : fits Tryz.prog 84 Tryz.f84 c81 [.t 4] 2 = true := by kernel_rfl
def c82 : SC :=
  (.seq (.seq (.reg [.r 27 (.mv (.t 6)),
     .r 28 (.mv (.t 1)),
     .r 29 (.bin .lss (.t 27) (.t 28))])
  (.cond (.t 29)
    .skip
    (.exit 0)))
  (.seq (.block 1 (.seq (.regD [.r 32 (.mv (.t 0)),
       .r 33 (.mv (.t 6)),
       .r 34 (.idx 4 (.t 32) (.t 33)),
       .r 35 (.fld 0 (.t 34)),
       .r 36 (.ld1 (.t 35)),
       .r 37 (.fld 0 (.t 5)),
       .r 38 (.ld1 (.t 37)),
       .r 39 (.bin .eql (.t 36) (.t 38))])
    (.cond (.t 39)
      (.seq (.reg [.r 4 (.mv (.c (.d (.int .i64 7))))])
      .ret)
      .skip)))
  (.reg [.r 30 (.mv (.t 6)),
     .r 31 (.bin .add (.t 30) (.c (.d (.int .i64 1)))),
     .r 6 (.mv (.t 31))])))
def c83 : SC := .block 0 (.loop c82)
def c84 : SC :=
  (.seq (.seq (.reg [.r 46 (.mv (.t 8)),
     .r 47 (.fld 3 (.t 5)),
     .o 48 (.ld1 (.t 47)),
     .r 49 (.len (.t 48)),
     .r 50 (.bin .lss (.t 46) (.t 49))])
  (.cond (.t 50)
    .skip
    (.exit 2)))
  (.seq (.block 3 (.seq (.reg [.r 53 (.fld 3 (.t 5)),
       .o 54 (.ld1 (.t 53)),
       .r 55 (.mv (.t 8)),
       .r 56 (.idx 2 (.t 54) (.t 55)),
       .r 57 (.fld 0 (.t 56)),
       .o 58 (.ld1 (.t 57)),
       .c 59 (.f 124) [.t 58]])
    (.cond (.t 59)
      (.seq (.reg [.r 4 (.mv (.c (.d (.int .i64 4))))])
      .ret)
      .skip)))
  (.reg [.r 51 (.mv (.t 8)),
     .r 52 (.bin .add (.t 51) (.c (.d (.int .i64 1)))),
     .r 8 (.mv (.t 52))])))
def c85 : SC := .block 2 (.loop c84)
def c86 : SC :=
  (.seq (.reg [.r 4 (.mv (.c (.d (.int .i64 0))))])
  (.seq (.reg [.r 9 (.mv (.t 0)),
     .r 10 (.mv (.t 1)),
     .r 11 (.idx 4 (.t 9) (.t 10)),
     .o 12 (.ldA 4 (.t 11)),
     .w 5 (.boxM (.c (.agg [.d (.str []), .d (.str []), .d (.str []), .nils]))),
     .w 0 (.st 4 (.t 5) (.t 12))])
  (.seq (.seq (.reg [.r 13 (.fld 0 (.t 5)),
     .o 14 (.ld1 (.t 13)),
     .c 15 (.f 43) [.t 14],
     .r 16 (.not (.t 15))])
  (.cond (.t 16)
    (.seq (.reg [.r 4 (.mv (.c (.d (.int .i64 3))))])
    .ret)
    .skip))
  (.seq (.seq (.reg (.r 17 (.fld 1 (.t 5)) :: .o 18 (.ld1 (.t 17)) :: .c 19 (.f 44) [.t 18] :: .r 20 (.not (.t 19)) :: .r 21 (.mv (.t 20)) :: gapp [22, 23, 24, 25] 21 false (.r 22 (.fld 2 (.t 5)) :: .r 23 (.ld1 (.t 22)) :: .c 24 (.f 44) [.t 23] :: .r 25 (.not (.t 24)) :: []) (.r 26 (.pick (.t 21) (.c (.d (.bool true))) (.t 25)) :: [])))
  (.cond (.t 26)
    (.seq (.reg [.r 4 (.mv (.c (.d (.int .i64 5))))])
    .ret)
    .skip))
  (.seq (.seq (.reg [.r 6 (.mv (.c (.d (.int .i64 0))))])
  c83)
  (.seq (.seq (.reg [.r 40 (.fld 3 (.t 5)),
     .o 41 (.ld1 (.t 40)),
     .c 42 (.f 123) [.t 41],
     .r 7 (.mv (.t 42))])
  (.seq (.reg [.r 43 (.mv (.t 7)),
     .r 44 (.bin .neq (.t 43) (.c (.d (.int .i64 0))))])
  (.cond (.t 44)
    (.seq (.reg [.r 45 (.mv (.t 7)),
       .r 4 (.mv (.t 45))])
    .ret)
    .skip)))
  (.seq (.seq (.reg [.r 8 (.mv (.c (.d (.int .i64 0))))])
  c85)
  (.seq (.reg [.r 4 (.mv (.c (.d (.int .i64 0))))])
  .ret))))))))
theorem k43 : fits Tryz.prog 85 Tryz.f85 c86 [.t 4] 2 = true := by kernel_rfl
set_option maxRecDepth 100000 in
set_option maxHeartbeats 40000000 in
noncomputable def w11 : (∀ (x0 : T3) (x1 : List T3), {m : Option (Int) // ∀ r, m = some r → PureSpec Tryz.prog 84 [.agg (r7 x0), .slice (List.map r7 x1)] (.int .i64 r)}) × (∀ (x0 : List T3) (x1 : Int), {m : Option (Int) // ∀ r, m = some r → PureSpec Tryz.prog 85 [.slice (List.map r7 x0), .int .i64 x1] (.int .i64 r)}) := by
  refine ⟨?g0, ?g1⟩
  case' g0 => (intro x0 x1; apply Subtype.mk; intro r hm; apply pure_walk Tryz.func84 k42; unfold c81)
  case' g1 => (intro x0 x1; apply Subtype.mk; intro r hm; apply pure_walk Tryz.func85 k43; unfold c86)
  all_goals (repeat' (first | with_reducible refine W_seq ?_ | with_reducible refine W_reg ?_ | with_reducible refine W_regD ?_ | with_reducible refine W_block ?_ | with_reducible refine W_skip ?_ | with_reducible refine W_ret ?_ | with_reducible refine W_exit ?_ | with_reducible refine O_nil ?_ | with_reducible refine K_seq ?_ | with_reducible refine K_seqE ?_ | with_reducible refine K_seqR ?_ | with_reducible refine K_block ?_ | with_reducible refine K_blockR ?_ | with_reducible refine K_blockE ?_ | ((with_reducible apply K_blockN); decide) | with_reducible refine O_o2r ?_ | ((with_reducible apply O_idxr hm); (iterate 2 (simp only [push_cast, seval]; rfl)); (intro _; rfl); intro e hm) | ((with_reducible apply O_idxVr hm); (iterate 3 (simp only [push_cast, seval]; rfl)); intro e hm) | ((with_reducible apply O_r); (simp only [push_cast, seval]; rfl); (first | exact trivial | omega)) | ((with_reducible apply O_ldV1r hm); (iterate 2 (simp only [push_cast, seval]; rfl)); (intro _; rfl); intro e hm) | ((with_reducible apply O_ldAVr hm); (iterate 2 (simp only [push_cast, seval]; rfl)); (intro _; rfl); intro e hm) | ((with_reducible apply O_strr hm); (iterate 2 (simp only [push_cast, seval]; rfl)); intro hm) | ((with_reducible apply O_or hm); (simp only [push_cast, seval]; rfl); rfl; intro v hm; rotate_left; intro v g hm) | ((with_reducible apply W_condT); (focus (simp only [push_cast, seval]; done))) | ((with_reducible apply W_condF); (focus (simp only [push_cast, seval]; done))) | ((with_reducible apply O_cF hm); (simp only [push_cast, seval]; rfl); (first | apply s29 _ | apply s30 _ | apply s33 _ _ _ _ (fun a0 r h => s20 a0 _ r h) | apply s33 _ _ _ _ (fun a0 r h => s29 a0 r h) | apply s33 _ _ _ _ (fun a0 r h => s30 a0 r h) | apply s33 _ _ _ _ (fun a0 r h => s15 a0 r h) | apply s33 _ _ _ _ (fun  r h => s22  r h) | apply s33 _ _ _ _ (fun a0 a1 r h => s34 a0 a1 r h) | apply s33 _ _ _ _ (fun  r h => s24  r h) | apply s15 _ | apply s22 | apply s34 _ _ | apply s24 | apply s20 _ _ | apply s26 _ | apply s27 _ | apply s14 _ | apply s35 _); (any_goals ((repeat' (first | rfl | (with_reducible first | apply ft1 | apply ft2 | apply ft3 | apply f_optN | apply f_optS | apply f_some | apply f_tup | apply f_agg | apply f_ptr | apply f_fn | apply dv_slice | apply sv_d | apply f_cons | apply fold_nil | apply fold_cons | apply fold_app | apply f_rowI | apply f_rowY | apply f_rowS | apply f_rowB | apply f_rowL) | (with_reducible apply f_byte; decide))); done)); intro x hm) | ((with_reducible apply O_cvS hm); (iterate 2 (simp only [push_cast, seval]; rfl)); (focus (first | exact s29 _ | exact s30 _ | exact s33 _ _ _ _ (fun a0 r h => s20 a0 _ r h) | exact s33 _ _ _ _ (fun a0 r h => s29 a0 r h) | exact s33 _ _ _ _ (fun a0 r h => s30 a0 r h) | exact s33 _ _ _ _ (fun a0 r h => s15 a0 r h) | exact s33 _ _ _ _ (fun  r h => s22  r h) | exact s33 _ _ _ _ (fun a0 a1 r h => s34 a0 a1 r h) | exact s33 _ _ _ _ (fun  r h => s24  r h) | exact s15 _ | exact s22 | exact s34 _ _ | exact s24 | exact s20 _ _ | exact s26 _ | exact s27 _ | exact s14 _ | exact s35 _)); intro x hm) | ((with_reducible apply O_w); (simp only [push_cast, seval]; rfl); (first | exact trivial | omega)) | ((with_reducible apply O_stVA hm); (iterate 4 (simp only [push_cast, seval]; rfl)); (focus ((repeat' (first | rfl | (with_reducible first | apply ft1 | apply ft2 | apply ft3 | apply f_optN | apply f_optS | apply f_some | apply f_tup | apply f_agg | apply f_ptr | apply f_fn | apply dv_slice | apply sv_d | apply f_cons | apply fold_nil | apply fold_cons | apply fold_app | apply f_rowI | apply f_rowY | apply f_rowS | apply f_rowB | apply f_rowL) | (with_reducible apply f_byte; decide))); done)); decide; (intro _; rfl); intro e hm) | ((with_reducible apply S_condB hm); (simp only [push_cast, seval]; rfl); intro hm; rotate_left; intro hm) | ((with_reducible apply K_endS hm); (focus (simp only [resOf, resL, RV.get, push_cast, seval]; rfl)); (focus ((repeat' (first | rfl | (with_reducible first | apply ft1 | apply ft2 | apply ft3 | apply f_optN | apply f_optS | apply f_some | apply f_tup | apply f_agg | apply f_ptr | apply f_fn | apply dv_slice | apply sv_d | apply f_cons | apply fold_nil | apply fold_cons | apply fold_app | apply f_rowI | apply f_rowY | apply f_rowS | apply f_rowB | apply f_rowL) | (with_reducible apply f_byte; decide))); done))) | ((with_reducible apply K_bool hm); (simp only [push_cast, seval]; rfl)) | ((with_reducible apply K_leave hm); intro r hm) | ((with_reducible apply K_leaveR hm); intro r hm) | ((apply S_loopY (b := 0) (X := c80) (x := c79) rfl (fun (c : SV × SV) (s : Int) => st [(32, c.1), (33, c.2), (34, .d (.int .i64 s))] []) (c := (_, _)) (s0 := _) hm); (focus (first | (dsimp only; done) | (dsimp only; rfl) | rfl)); (with_reducible refine Then.mk ?_ ?_)) | ((apply S_loopY (b := 0) (X := c83) (x := c82) rfl (fun (c : SV × SV × Ch) (s : Int) => st [(0, c.1), (1, c.2.1), (5, .ref 5 0), (6, .d (.int .i64 s))] [(5, c.2.2)]) (c := (_, _, _)) (s0 := _) hm); (focus (first | (dsimp only; done) | (dsimp only; rfl) | rfl)); (with_reducible refine Then.mk ?_ ?_)) | ((apply S_loopY (b := 2) (X := c85) (x := c84) rfl (fun (c : Ch) (s : Int) => st [(5, .ref 5 0), (8, .d (.int .i64 s))] [(5, c)]) (c := _) (s0 := _) hm); (focus (first | (dsimp only; done) | (dsimp only; rfl) | rfl)); (with_reducible refine Then.mk ?_ ?_)) | ((apply K_next (s' := _) hm); (focus (first | (dsimp only; done) | (dsimp only; rfl) | rfl))) | ((apply K_brk (s' := _) hm); (focus (first | (dsimp only; done) | (dsimp only; rfl) | rfl))) | (((with_reducible apply K_brkN hm); (focus decide); intro r hm)) | (((with_reducible apply K_brkR hm); intro r hm)) | (((with_reducible apply LoopB.of); (focus (first | (dsimp only; done) | (dsimp only; rfl) | rfl)); (focus ((intro _; repeat' (first | with_reducible exact impC_end | with_reducible exact impC_endF | with_reducible refine impC_seq ?_ | with_reducible refine impC_block ?_ | ((with_reducible refine impC_rnd ?_); intro _) | ((with_reducible refine impC_brk ?_); intro _))))); (intro s o hm; first | unfold c79 | unfold c82 | unfold c84); rotate_left; intro s hm)) | (((apply imp_stT; (repeat' (first | with_reducible exact keepT_nil | with_reducible exact keepC_nil | with_reducible apply keepT_cons | with_reducible apply keepC_cons | ((with_reducible apply svle_eq); (focus (first | (simp only [push_cast, seval]; rfl) | rfl)); (focus ((repeat' (first | rfl | (with_reducible first | apply ft1 | apply ft2 | apply ft3 | apply f_optN | apply f_optS | apply f_some | apply f_tup | apply f_agg | apply f_ptr | apply f_fn | apply dv_slice | apply sv_d | apply f_cons | apply fold_nil | apply fold_cons | apply fold_app | apply f_rowI | apply f_rowY | apply f_rowS | apply f_rowB | apply f_rowL) | (with_reducible apply f_byte; decide))); done))) | ((with_reducible apply svle_td); (focus (first | (simp only [push_cast, seval]; rfl) | rfl)); (focus (first | (simp only [push_cast, seval]; rfl) | rfl)); (focus ((repeat' (first | rfl | (with_reducible first | apply ft1 | apply ft2 | apply ft3 | apply f_optN | apply f_optS | apply f_some | apply f_tup | apply f_agg | apply f_ptr | apply f_fn | apply dv_slice | apply sv_d | apply f_cons | apply fold_nil | apply fold_cons | apply fold_app | apply f_rowI | apply f_rowY | apply f_rowS | apply f_rowB | apply f_rowL) | (with_reducible apply f_byte; decide))); done))) | ((with_reducible apply chle_eq); (focus (first | (simp only [push_cast, seval]; rfl) | rfl)); (first | with_reducible exact chle_rfl rfl | with_reducible exact chle_map0 | with_reducible apply chle_vec | with_reducible apply chle_box)) | (with_reducible first | apply ct1 | apply ct2 | apply ct3 | apply r_shS | apply r_shI | apply r_rflO | apply r_oneO | apply r_appO | apply r_nilO | apply c_ownN | apply c_ownL | apply vc_rfl | apply vc_nil | apply vc_cons | apply r_rfl | apply r_rows | apply r_nil | apply r_app | apply r_cons | apply c_rowI | apply c_rowY | apply c_rowS | apply c_rowB | apply c_rowL))); done)))))
noncomputable def m40 (x0 : T3) (x1 : List T3) : Option (Int) := (w11.1 x0 x1).1
theorem s36 (x0 : T3) (x1 : List T3) : ∀ r, m40 x0 x1 = some r → PureSpec Tryz.prog 84 [.agg (r7 x0), .slice (List.map r7 x1)] (.int .i64 r) := (w11.1 x0 x1).2
noncomputable def m41 (x0 : List T3) (x1 : Int) : Option (Int) := (w11.2 x0 x1).1
theorem s37 (x0 : List T3) (x1 : Int) : ∀ r, m41 x0 x1 = some r → PureSpec Tryz.prog 85 [.slice (List.map r7 x0), .int .i64 x1] (.int .i64 r) := (w11.2 x0 x1).2
def c87 : SC :=
  (.seq (.reg [.r 23 (.bin .lss (.t 22) (.t 21))])
  (.seq (.cond (.t 23)
    .skip
    (.exit 0))
  (.seq (.block 1 (.seq (.reg [.r 24 (.mv (.t 22)),
       .r 25 (.idx 4 (.t 20) (.t 22)),
       .o 26 (.ldA 4 (.t 25)),
       .w 6 (.boxM (.c (.agg [.d (.str []), .d (.str []), .d (.str []), .nils]))),
       .r 5 (.mv (.t 24)),
       .w 0 (.st 4 (.t 6) (.t 26))])
    (.seq (.regD [.r 27 (.ldA 4 (.t 6)),
       .r 28 (.fld 2 (.t 2)),
       .r 29 (.ld1 (.t 28)),
       .r 30 (.mv (.t 5)),
       .r 31 (.slc 4 (.t 29) none (some (.t 30))),
       .c 32 (.f 84) [.t 27, .t 31],
       .r 7 (.mv (.t 32))])
    (.seq (.reg [.r 33 (.mv (.t 7)),
       .r 34 (.bin .neq (.t 33) (.c (.d (.int .i64 0))))])
    (.cond (.t 34)
      (.seq (.reg [.r 35 (.mv (.t 7)),
         .r 4 (.mv (.t 35))])
      .ret)
      .skip)))))
  (.reg [.r 36 (.bin .add (.t 22) (.c (.d (.int .i64 1)))),
     .r 22 (.mv (.t 36))]))))
def c88 : SC := .block 0 (.loop c87)
def c89 : SC :=
  (.seq (.reg [.r 2 (.boxI (.t 0)),
     .r 4 (.mv (.c (.d (.int .i64 0))))])
  (.seq (.seq (.reg [.r 8 (.fld 0 (.t 2)),
     .o 9 (.ld1 (.t 8)),
     .c 10 (.f 37) [.t 9],
     .r 11 (.not (.t 10))])
  (.cond (.t 11)
    (.seq (.reg [.r 4 (.mv (.c (.d (.int .i64 3))))])
    .ret)
    .skip))
  (.seq (.seq (.reg [.r 12 (.fld 1 (.t 2)),
     .o 13 (.ld1 (.t 12)),
     .c 14 (.f 38) [.t 13],
     .r 15 (.not (.t 14))])
  (.cond (.t 15)
    (.seq (.reg [.r 4 (.mv (.c (.d (.int .i64 5))))])
    .ret)
    .skip))
  (.seq (.seq (.reg [.r 16 (.mv (.t 1)),
     .r 17 (.mkfn 83 [.t 2]),
     .c 18 (.f 82) [.t 16, .t 17]])
  (.cond (.t 18)
    (.seq (.reg [.r 4 (.mv (.c (.d (.int .i64 7))))])
    .ret)
    .skip))
  (.seq (.seq (.reg [.r 19 (.fld 2 (.t 2)),
     .o 20 (.ld1 (.t 19)),
     .r 21 (.len (.t 20)),
     .r 22 (.mv (.c (.d (.int .i64 0))))])
  c88)
  (.seq (.reg [.r 4 (.mv (.c (.d (.int .i64 0))))])
  .ret))))))
theorem k44 : fits Tryz.prog 41 Tryz.f41 c89 [.t 4] 2 = true := by kernel_rfl
def c90 : SC :=
  (.seq (.seq (.reg [.r 22 (.mv (.t 5)),
     .r 23 (.mv (.t 1)),
     .r 24 (.bin .lss (.t 22) (.t 23))])
  (.cond (.t 24)
    .skip
    (.exit 0)))
  (.seq (.block 1 (.seq (.regD [.r 27 (.mv (.t 0)),
       .r 28 (.mv (.t 5)),
       .r 29 (.idx 3 (.t 27) (.t 28)),
       .r 30 (.fld 0 (.t 29)),
       .r 31 (.ld1 (.t 30)),
       .r 32 (.mv (.t 0)),
       .r 33 (.mv (.t 1)),
       .r 34 (.idx 3 (.t 32) (.t 33)),
       .r 35 (.fld 0 (.t 34)),
       .r 36 (.ld1 (.t 35)),
       .r 37 (.bin .eql (.t 31) (.t 36))])
    (.cond (.t 37)
      (.seq (.reg [.r 4 (.mv (.c (.d (.int .i64 7))))])
      .ret)
      .skip)))
  (.reg [.r 25 (.mv (.t 5)),
     .r 26 (.bin .add (.t 25) (.c (.d (.int .i64 1)))),
     .r 5 (.mv (.t 26))])))
def c91 : SC := .block 0 (.loop c90)
def c92 : SC :=
  (.seq (.seq (.reg [.r 38 (.mv (.t 6)),
     .r 39 (.mv (.t 0)),
     .r 40 (.mv (.t 1)),
     .r 41 (.idx 3 (.t 39) (.t 40)),
     .r 42 (.fld 2 (.t 41)),
     .o 43 (.ld1 (.t 42)),
     .r 44 (.len (.t 43)),
     .r 45 (.bin .lss (.t 38) (.t 44))])
  (.cond (.t 45)
    .skip
    (.exit 2)))
  (.seq (.block 3 (.seq (.reg [.r 48 (.mv (.t 0)),
       .r 49 (.mv (.t 1)),
       .r 50 (.idx 3 (.t 48) (.t 49)),
       .r 51 (.fld 2 (.t 50)),
       .o 52 (.ld1 (.t 51)),
       .r 53 (.mv (.t 6)),
       .c 54 (.f 85) [.t 52, .t 53],
       .r 7 (.mv (.t 54))])
    (.seq (.reg [.r 55 (.mv (.t 7)),
       .r 56 (.bin .neq (.t 55) (.c (.d (.int .i64 0))))])
    (.cond (.t 56)
      (.seq (.reg [.r 57 (.mv (.t 7)),
         .r 4 (.mv (.t 57))])
      .ret)
      .skip))))
  (.reg [.r 46 (.mv (.t 6)),
     .r 47 (.bin .add (.t 46) (.c (.d (.int .i64 1)))),
     .r 6 (.mv (.t 47))])))
def c93 : SC := .block 2 (.loop c92)
def c94 : SC :=
  (.seq (.reg [.r 4 (.mv (.c (.d (.int .i64 0))))])
  (.seq (.seq (.reg [.r 8 (.mv (.t 0)),
     .r 9 (.mv (.t 1)),
     .r 10 (.idx 3 (.t 8) (.t 9)),
     .r 11 (.fld 0 (.t 10)),
     .o 12 (.ld1 (.t 11)),
     .c 13 (.f 43) [.t 12],
     .r 14 (.not (.t 13))])
  (.cond (.t 14)
    (.seq (.reg [.r 4 (.mv (.c (.d (.int .i64 3))))])
    .ret)
    .skip))
  (.seq (.seq (.reg [.r 15 (.mv (.t 0)),
     .r 16 (.mv (.t 1)),
     .r 17 (.idx 3 (.t 15) (.t 16)),
     .r 18 (.fld 1 (.t 17)),
     .o 19 (.ld1 (.t 18)),
     .c 20 (.f 44) [.t 19],
     .r 21 (.not (.t 20))])
  (.cond (.t 21)
    (.seq (.reg [.r 4 (.mv (.c (.d (.int .i64 5))))])
    .ret)
    .skip))
  (.seq (.seq (.reg [.r 5 (.mv (.c (.d (.int .i64 0))))])
  c91)
  (.seq (.seq (.reg [.r 6 (.mv (.c (.d (.int .i64 0))))])
  c93)
  (.seq (.reg [.r 4 (.mv (.c (.d (.int .i64 0))))])
  .ret))))))
theorem k45 : fits Tryz.prog 45 Tryz.f45 c94 [.t 4] 2 = true := by kernel_rfl
set_option maxRecDepth 100000 in
set_option maxHeartbeats 40000000 in
noncomputable def w12 : (∀ (x0 : T4) (x1 : List T4), {m : Option (Int) // ∀ r, m = some r → PureSpec Tryz.prog 41 [.agg (r8 x0), .slice (List.map r8 x1)] (.int .i64 r)}) × (∀ (x0 : List T4) (x1 : Int), {m : Option (Int) // ∀ r, m = some r → PureSpec Tryz.prog 45 [.slice (List.map r8 x0), .int .i64 x1] (.int .i64 r)}) := by
  refine ⟨?g0, ?g1⟩
  case' g0 => (intro x0 x1; apply Subtype.mk; intro r hm; apply pure_walk Tryz.func41 k44; unfold c89)
  case' g1 => (intro x0 x1; apply Subtype.mk; intro r hm; apply pure_walk Tryz.func45 k45; unfold c94)
  all_goals (repeat' (first | with_reducible refine W_seq ?_ | with_reducible refine W_reg ?_ | with_reducible refine W_regD ?_ | with_reducible refine W_block ?_ | with_reducible refine W_skip ?_ | with_reducible refine W_ret ?_ | with_reducible refine W_exit ?_ | with_reducible refine O_nil ?_ | with_reducible refine K_seq ?_ | with_reducible refine K_seqE ?_ | with_reducible refine K_seqR ?_ | with_reducible refine K_block ?_ | with_reducible refine K_blockR ?_ | with_reducible refine K_blockE ?_ | ((with_reducible apply K_blockN); decide) | with_reducible refine O_o2r ?_ | ((with_reducible apply O_idxr hm); (iterate 2 (simp only [push_cast, seval]; rfl)); (intro _; rfl); intro e hm) | ((with_reducible apply O_idxVr hm); (iterate 3 (simp only [push_cast, seval]; rfl)); intro e hm) | ((with_reducible apply O_slcr hm); (iterate 3 (simp only [push_cast, seval]; rfl)); (intro _; rfl); intro e hm) | ((with_reducible apply O_r); (simp only [push_cast, seval]; rfl); (first | exact trivial | omega)) | ((with_reducible apply O_ldV1r hm); (iterate 2 (simp only [push_cast, seval]; rfl)); (intro _; rfl); intro e hm) | ((with_reducible apply O_ldAVr hm); (iterate 2 (simp only [push_cast, seval]; rfl)); (intro _; rfl); intro e hm) | ((with_reducible apply O_strr hm); (iterate 2 (simp only [push_cast, seval]; rfl)); intro hm) | ((with_reducible apply W_condT); (focus (simp only [push_cast, seval]; done))) | ((with_reducible apply W_condF); (focus (simp only [push_cast, seval]; done))) | ((with_reducible apply O_cF hm); (simp only [push_cast, seval]; rfl); (first | apply s29 _ | apply s30 _ | apply s32 _ _ _ _ (fun a0 r h => s18 a0 _ r h) | apply s32 _ _ _ _ (fun a0 r h => s29 a0 r h) | apply s32 _ _ _ _ (fun a0 r h => s30 a0 r h) | apply s32 _ _ _ _ (fun a0 a1 r h => s36 a0 a1 r h) | apply s36 _ _ | apply s18 _ _ | apply s26 _ | apply s27 _ | apply s37 _ _); (any_goals ((repeat' (first | rfl | (with_reducible first | apply ft1 | apply ft2 | apply ft4 | apply ft3 | apply f_optN | apply f_optS | apply f_some | apply f_tup | apply f_agg | apply f_ptr | apply f_fn | apply dv_slice | apply sv_d | apply f_cons | apply fold_nil | apply fold_cons | apply fold_app | apply f_rowI | apply f_rowY | apply f_rowS | apply f_rowB | apply f_rowL) | (with_reducible apply f_byte; decide))); done)); intro x hm) | ((with_reducible apply O_cvS hm); (iterate 2 (simp only [push_cast, seval]; rfl)); (focus (first | exact s29 _ | exact s30 _ | exact s32 _ _ _ _ (fun a0 r h => s18 a0 _ r h) | exact s32 _ _ _ _ (fun a0 r h => s29 a0 r h) | exact s32 _ _ _ _ (fun a0 r h => s30 a0 r h) | exact s32 _ _ _ _ (fun a0 a1 r h => s36 a0 a1 r h) | exact s36 _ _ | exact s18 _ _ | exact s26 _ | exact s27 _ | exact s37 _ _)); intro x hm) | ((with_reducible apply O_w); (simp only [push_cast, seval]; rfl); (first | exact trivial | omega)) | ((with_reducible apply O_stVA hm); (iterate 4 (simp only [push_cast, seval]; rfl)); (focus ((repeat' (first | rfl | (with_reducible first | apply ft1 | apply ft2 | apply ft4 | apply ft3 | apply f_optN | apply f_optS | apply f_some | apply f_tup | apply f_agg | apply f_ptr | apply f_fn | apply dv_slice | apply sv_d | apply f_cons | apply fold_nil | apply fold_cons | apply fold_app | apply f_rowI | apply f_rowY | apply f_rowS | apply f_rowB | apply f_rowL) | (with_reducible apply f_byte; decide))); done)); decide; (intro _; rfl); intro e hm) | ((with_reducible apply S_condB hm); (simp only [push_cast, seval]; rfl); intro hm; rotate_left; intro hm) | ((with_reducible apply K_endS hm); (focus (simp only [resOf, resL, RV.get, push_cast, seval]; rfl)); (focus ((repeat' (first | rfl | (with_reducible first | apply ft1 | apply ft2 | apply ft4 | apply ft3 | apply f_optN | apply f_optS | apply f_some | apply f_tup | apply f_agg | apply f_ptr | apply f_fn | apply dv_slice | apply sv_d | apply f_cons | apply fold_nil | apply fold_cons | apply fold_app | apply f_rowI | apply f_rowY | apply f_rowS | apply f_rowB | apply f_rowL) | (with_reducible apply f_byte; decide))); done))) | ((with_reducible apply K_leave hm); intro r hm) | ((with_reducible apply K_leaveR hm); intro r hm) | ((apply S_loopY (b := 0) (X := c88) (x := c87) rfl (fun (c : SV × SV × SV) (s : Int) => st [(2, c.1), (20, c.2.1), (21, c.2.2), (22, .d (.int .i64 s))] []) (c := (_, _, _)) (s0 := _) hm); (focus (first | (dsimp only; done) | (dsimp only; rfl) | rfl)); (with_reducible refine Then.mk ?_ ?_)) | ((apply S_loopY (b := 0) (X := c91) (x := c90) rfl (fun (c : SV × SV) (s : Int) => st [(0, c.1), (1, c.2), (5, .d (.int .i64 s))] []) (c := (_, _)) (s0 := _) hm); (focus (first | (dsimp only; done) | (dsimp only; rfl) | rfl)); (with_reducible refine Then.mk ?_ ?_)) | ((apply S_loopY (b := 2) (X := c93) (x := c92) rfl (fun (c : SV × SV) (s : Int) => st [(0, c.1), (1, c.2), (6, .d (.int .i64 s))] []) (c := (_, _)) (s0 := _) hm); (focus (first | (dsimp only; done) | (dsimp only; rfl) | rfl)); (with_reducible refine Then.mk ?_ ?_)) | ((apply K_next (s' := _) hm); (focus (first | (dsimp only; done) | (dsimp only; rfl) | rfl))) | ((apply K_brk (s' := _) hm); (focus (first | (dsimp only; done) | (dsimp only; rfl) | rfl))) | (((with_reducible apply K_brkN hm); (focus decide); intro r hm)) | (((with_reducible apply K_brkR hm); intro r hm)) | (((with_reducible apply LoopB.of); (focus (first | (dsimp only; done) | (dsimp only; rfl) | rfl)); (focus ((intro _; repeat' (first | with_reducible exact impC_end | with_reducible exact impC_endF | with_reducible refine impC_seq ?_ | with_reducible refine impC_block ?_ | ((with_reducible refine impC_rnd ?_); intro _) | ((with_reducible refine impC_brk ?_); intro _))))); (intro s o hm; first | unfold c87 | unfold c90 | unfold c92); rotate_left; intro s hm)) | (((apply imp_stT; (repeat' (first | with_reducible exact keepT_nil | with_reducible exact keepC_nil | with_reducible apply keepT_cons | with_reducible apply keepC_cons | ((with_reducible apply svle_eq); (focus (first | (simp only [push_cast, seval]; rfl) | rfl)); (focus ((repeat' (first | rfl | (with_reducible first | apply ft1 | apply ft2 | apply ft4 | apply ft3 | apply f_optN | apply f_optS | apply f_some | apply f_tup | apply f_agg | apply f_ptr | apply f_fn | apply dv_slice | apply sv_d | apply f_cons | apply fold_nil | apply fold_cons | apply fold_app | apply f_rowI | apply f_rowY | apply f_rowS | apply f_rowB | apply f_rowL) | (with_reducible apply f_byte; decide))); done))) | ((with_reducible apply svle_td); (focus (first | (simp only [push_cast, seval]; rfl) | rfl)); (focus (first | (simp only [push_cast, seval]; rfl) | rfl)); (focus ((repeat' (first | rfl | (with_reducible first | apply ft1 | apply ft2 | apply ft4 | apply ft3 | apply f_optN | apply f_optS | apply f_some | apply f_tup | apply f_agg | apply f_ptr | apply f_fn | apply dv_slice | apply sv_d | apply f_cons | apply fold_nil | apply fold_cons | apply fold_app | apply f_rowI | apply f_rowY | apply f_rowS | apply f_rowB | apply f_rowL) | (with_reducible apply f_byte; decide))); done))) | ((with_reducible apply chle_eq); (focus (first | (simp only [push_cast, seval]; rfl) | rfl)); (first | with_reducible exact chle_rfl rfl | with_reducible exact chle_map0 | with_reducible apply chle_vec | with_reducible apply chle_box)) | (with_reducible first | apply ct1 | apply ct2 | apply ct4 | apply ct3 | apply r_shS | apply r_shI | apply r_rflO | apply r_oneO | apply r_appO | apply r_nilO | apply c_ownN | apply c_ownL | apply vc_rfl | apply vc_nil | apply vc_cons | apply r_rfl | apply r_rows | apply r_nil | apply r_app | apply r_cons | apply c_rowI | apply c_rowY | apply c_rowS | apply c_rowB | apply c_rowL))); done)))))
noncomputable def m42 (x0 : T4) (x1 : List T4) : Option (Int) := (w12.1 x0 x1).1
theorem s38 (x0 : T4) (x1 : List T4) : ∀ r, m42 x0 x1 = some r → PureSpec Tryz.prog 41 [.agg (r8 x0), .slice (List.map r8 x1)] (.int .i64 r) := (w12.1 x0 x1).2
noncomputable def m43 (x0 : List T4) (x1 : Int) : Option (Int) := (w12.2 x0 x1).1
theorem s39 (x0 : List T4) (x1 : Int) : ∀ r, m43 x0 x1 = some r → PureSpec Tryz.prog 45 [.slice (List.map r8 x0), .int .i64 x1] (.int .i64 r) := (w12.2 x0 x1).2
def c95 : SC :=
  (.seq (.reg [.r 43 (.bin .lss (.t 42) (.t 41))])
  (.seq (.cond (.t 43)
    .skip
    (.exit 1))
  (.seq (.block 2 (.seq (.reg [.r 44 (.mv (.t 42)),
       .r 45 (.idx 3 (.t 40) (.t 42)),
       .o 46 (.ldA 3 (.t 45)),
       .w 4 (.boxM (.c (.agg [.d (.str []), .d (.str []), .nils]))),
       .r 3 (.mv (.t 44)),
       .w 0 (.st 3 (.t 4) (.t 46))])
    (.seq (.regD [.r 47 (.ldA 3 (.t 4)),
       .r 48 (.fld 6 (.t 1)),
       .r 49 (.ld1 (.t 48)),
       .r 50 (.mv (.t 3)),
       .r 51 (.slc 3 (.t 49) none (some (.t 50))),
       .c 52 (.f 41) [.t 47, .t 51],
       .r 5 (.mv (.t 52))])
    (.seq (.reg [.r 53 (.mv (.t 5)),
       .r 54 (.bin .neq (.t 53) (.c (.d (.int .i64 0))))])
    (.cond (.t 54)
      (.seq (.reg [.r 55 (.mv (.t 5)),
         .r 2 (.mv (.t 55))])
      .ret)
      .skip)))))
  (.reg [.r 56 (.bin .add (.t 42) (.c (.d (.int .i64 1)))),
     .r 42 (.mv (.t 56))]))))
def c96 : SC := .block 1 (.loop c95)
def c97 : SC :=
  (.seq (.reg [.r 1 (.boxI (.t 0)),
     .r 2 (.mv (.c (.d (.int .i64 0))))])
  (.seq (.block 0 (.seq (.reg [.r 9 (.fld 0 (.t 1)),
       .o 10 (.ld1 (.t 9)),
       .c 11 (.f 37) [.t 10],
       .r 12 (.not (.t 11)),
       .r 8 (.mv (.t 12))])
    (.cond (.t 8)
      (.seq (.reg [.r 2 (.mv (.c (.d (.int .i64 3))))])
      .ret)
      (.seq (.reg (.r 14 (.fld 1 (.t 1)) :: .o 15 (.ld1 (.t 14)) :: .c 16 (.f 38) [.t 15] :: .r 17 (.not (.t 16)) :: .r 18 (.mv (.t 17)) :: gapp [19, 20, 21, 22] 18 false (.r 19 (.fld 2 (.t 1)) :: .r 20 (.ld1 (.t 19)) :: .c 21 (.f 38) [.t 20] :: .r 22 (.not (.t 21)) :: []) (.r 23 (.pick (.t 18) (.c (.d (.bool true))) (.t 22)) :: .r 13 (.mv (.t 23)) :: [])))
      (.cond (.t 13)
        (.seq (.reg [.r 2 (.mv (.c (.d (.int .i64 5))))])
        .ret)
        (.seq (.reg (.r 25 (.fld 3 (.t 1)) :: .o 26 (.ld1 (.t 25)) :: .c 27 (.f 39) [.t 26] :: .r 28 (.not (.t 27)) :: .r 29 (.mv (.t 28)) :: gapp [30, 31, 32] 29 false (.r 30 (.fld 4 (.t 1)) :: .r 31 (.ld1 (.t 30)) :: .c 32 (.f 40) [.t 31, .c (.d (.int .i64 0)), .c (.d (.int .i64 86399))] :: []) (.r 33 (.pick (.t 29) (.c (.d (.bool true))) (.t 32)) :: .r 24 (.mv (.t 33)) :: [])))
        (.cond (.t 24)
          (.seq (.reg [.r 2 (.mv (.c (.d (.int .i64 1))))])
          .ret)
          (.seq (.reg [.r 35 (.fld 6 (.t 1)),
             .o 36 (.ld1 (.t 35)),
             .r 37 (.len (.t 36)),
             .r 38 (.bin .gtr (.t 37) (.c (.d (.int .i64 50)))),
             .r 34 (.mv (.t 38))])
          (.cond (.t 34)
            (.seq (.reg [.r 2 (.mv (.c (.d (.int .i64 2))))])
            .ret)
            .skip)))))))))
  (.seq (.seq (.reg [.r 39 (.fld 6 (.t 1)),
     .o 40 (.ld1 (.t 39)),
     .r 41 (.len (.t 40)),
     .r 42 (.mv (.c (.d (.int .i64 0))))])
  c96)
  (.seq (.seq (.reg [.o 58 (.ldA 7 (.t 1)),
     .c 59 (.f 42) [.t 58],
     .r 57 (.mv (.t 59)),
     .r 60 (.ext (.t 57) 0),
     .r 61 (.ext (.t 57) 1),
     .r 6 (.mv (.t 60)),
     .r 7 (.mv (.t 61))])
  (.seq (.reg (.r 62 (.mv (.t 6)) :: .r 63 (.bin .gtr (.t 62) (.c (.d (.int .i64 200)))) :: .r 64 (.mv (.t 63)) :: gapp [65, 66] 64 false (.r 65 (.mv (.t 7)) :: .r 66 (.bin .gtr (.t 65) (.c (.d (.int .i64 2000)))) :: []) (.r 67 (.pick (.t 64) (.c (.d (.bool true))) (.t 66)) :: [])))
  (.cond (.t 67)
    (.seq (.reg [.r 2 (.mv (.c (.d (.int .i64 2))))])
    .ret)
    .skip)))
  (.seq (.reg [.r 2 (.mv (.c (.d (.int .i64 0))))])
  .ret)))))
theorem k46 : fits Tryz.prog 14 Tryz.f14 c97 [.t 2] 1 = true := by kernel_rfl
def c98 : SC :=
  (.seq (.seq (.reg [.r 69 (.mv (.t 7)),
     .r 70 (.fld 6 (.t 1)),
     .o 71 (.ld1 (.t 70)),
     .r 72 (.mv (.t 5)),
     .r 73 (.idx 3 (.t 71) (.t 72)),
     .r 74 (.fld 2 (.t 73)),
     .o 75 (.ld1 (.t 74)),
     .r 76 (.len (.t 75)),
     .r 77 (.bin .lss (.t 69) (.t 76))])
  (.cond (.t 77)
    .skip
    (.exit 2)))
  (.seq (.block 3 (.reg [.r 80 (.mv (.t 4)),
       .r 81 (.fld 6 (.t 1)),
       .o 82 (.ld1 (.t 81)),
       .r 83 (.mv (.t 5)),
       .r 84 (.idx 3 (.t 82) (.t 83)),
       .r 85 (.fld 2 (.t 84)),
       .o 86 (.ld1 (.t 85)),
       .r 87 (.mv (.t 7)),
       .r 88 (.idx 4 (.t 86) (.t 87)),
       .r 89 (.fld 3 (.t 88)),
       .o 90 (.ld1 (.t 89)),
       .r 91 (.len (.t 90)),
       .r 92 (.bin .add (.c (.d (.int .i64 2))) (.t 91)),
       .r 93 (.bin .add (.t 80) (.t 92)),
       .r 4 (.mv (.t 93))]))
  (.reg [.r 78 (.mv (.t 7)),
     .r 79 (.bin .add (.t 78) (.c (.d (.int .i64 1)))),
     .r 7 (.mv (.t 79))])))
def c99 : SC := .block 2 (.loop c98)
def c100 : SC :=
  (.seq (.seq (.reg [.r 44 (.mv (.t 5)),
     .r 45 (.fld 6 (.t 1)),
     .o 46 (.ld1 (.t 45)),
     .r 47 (.len (.t 46)),
     .r 48 (.bin .lss (.t 44) (.t 47))])
  (.cond (.t 48)
    .skip
    (.exit 0)))
  (.seq (.block 1 (.seq (.seq (.reg [.r 51 (.fld 6 (.t 1)),
       .o 52 (.ld1 (.t 51)),
       .r 53 (.mv (.t 5)),
       .c 54 (.f 45) [.t 52, .t 53],
       .r 6 (.mv (.t 54))])
    (.seq (.reg [.r 55 (.mv (.t 6)),
       .r 56 (.bin .neq (.t 55) (.c (.d (.int .i64 0))))])
    (.cond (.t 56)
      (.seq (.reg [.r 57 (.mv (.t 6)),
         .r 2 (.mv (.t 57))])
      .ret)
      .skip)))
    (.seq (.reg [.r 58 (.mv (.t 4)),
       .r 59 (.bin .add (.t 58) (.c (.d (.int .i64 2)))),
       .r 4 (.mv (.t 59))])
    (.seq (.reg [.r 60 (.mv (.t 3)),
       .r 61 (.fld 6 (.t 1)),
       .o 62 (.ld1 (.t 61)),
       .r 63 (.mv (.t 5)),
       .r 64 (.idx 3 (.t 62) (.t 63)),
       .r 65 (.fld 2 (.t 64)),
       .o 66 (.ld1 (.t 65)),
       .r 67 (.len (.t 66)),
       .r 68 (.bin .add (.t 60) (.t 67)),
       .r 3 (.mv (.t 68))])
    (.seq (.reg [.r 7 (.mv (.c (.d (.int .i64 0))))])
    c99)))))
  (.reg [.r 49 (.mv (.t 5)),
     .r 50 (.bin .add (.t 49) (.c (.d (.int .i64 1)))),
     .r 5 (.mv (.t 50))])))
def c101 : SC := .block 0 (.loop c100)
def c102 : SC :=
  (.seq (.reg [.r 1 (.boxI (.t 0)),
     .r 2 (.mv (.c (.d (.int .i64 0))))])
  (.seq (.seq (.reg [.r 8 (.fld 0 (.t 1)),
     .o 9 (.ld1 (.t 8)),
     .c 10 (.f 43) [.t 9],
     .r 11 (.not (.t 10))])
  (.cond (.t 11)
    (.seq (.reg [.r 2 (.mv (.c (.d (.int .i64 3))))])
    .ret)
    .skip))
  (.seq (.seq (.reg (.r 12 (.fld 1 (.t 1)) :: .o 13 (.ld1 (.t 12)) :: .c 14 (.f 44) [.t 13] :: .r 15 (.not (.t 14)) :: .r 16 (.mv (.t 15)) :: gapp [17, 18, 19, 20] 16 false (.r 17 (.fld 2 (.t 1)) :: .r 18 (.ld1 (.t 17)) :: .c 19 (.f 44) [.t 18] :: .r 20 (.not (.t 19)) :: []) (.r 21 (.pick (.t 16) (.c (.d (.bool true))) (.t 20)) :: [])))
  (.cond (.t 21)
    (.seq (.reg [.r 2 (.mv (.c (.d (.int .i64 5))))])
    .ret)
    .skip))
  (.seq (.seq (.reg (.r 22 (.fld 3 (.t 1)) :: .o 23 (.ld1 (.t 22)) :: .r 24 (.bin .lss (.t 23) (.c (.d (.int .i64 1)))) :: .r 25 (.mv (.t 24)) :: gapp [26, 27, 28] 25 false (.r 26 (.fld 3 (.t 1)) :: .r 27 (.ld1 (.t 26)) :: .r 28 (.bin .gtr (.t 27) (.c (.d (.int .i64 3652059)))) :: []) (.r 29 (.pick (.t 25) (.c (.d (.bool true))) (.t 28)) :: .r 30 (.mv (.t 29)) :: gapp [31, 32, 33] 30 false (.r 31 (.fld 4 (.t 1)) :: .r 32 (.ld1 (.t 31)) :: .r 33 (.bin .lss (.t 32) (.c (.d (.int .i64 0)))) :: []) (.r 34 (.pick (.t 30) (.c (.d (.bool true))) (.t 33)) :: .r 35 (.mv (.t 34)) :: gapp [36, 37, 38] 35 false (.r 36 (.fld 4 (.t 1)) :: .r 37 (.ld1 (.t 36)) :: .r 38 (.bin .gtr (.t 37) (.c (.d (.int .i64 86399)))) :: []) (.r 39 (.pick (.t 35) (.c (.d (.bool true))) (.t 38)) :: [])))))
  (.cond (.t 39)
    (.seq (.reg [.r 2 (.mv (.c (.d (.int .i64 1))))])
    .ret)
    .skip))
  (.seq (.seq (.reg [.r 40 (.fld 6 (.t 1)),
     .o 41 (.ld1 (.t 40)),
     .r 42 (.len (.t 41)),
     .r 43 (.bin .gtr (.t 42) (.c (.d (.int .i64 50))))])
  (.cond (.t 43)
    (.seq (.reg [.r 2 (.mv (.c (.d (.int .i64 2))))])
    .ret)
    .skip))
  (.seq (.reg [.r 3 (.mv (.c (.d (.int .i64 0)))),
     .r 4 (.mv (.c (.d (.int .i64 2))))])
  (.seq (.seq (.reg [.r 5 (.mv (.c (.d (.int .i64 0))))])
  c101)
  (.seq (.seq (.reg (.r 94 (.mv (.t 3)) :: .r 95 (.bin .gtr (.t 94) (.c (.d (.int .i64 200)))) :: .r 96 (.mv (.t 95)) :: gapp [97, 98] 96 false (.r 97 (.mv (.t 4)) :: .r 98 (.bin .gtr (.t 97) (.c (.d (.int .i64 2000)))) :: []) (.r 99 (.pick (.t 96) (.c (.d (.bool true))) (.t 98)) :: [])))
  (.cond (.t 99)
    (.seq (.reg [.r 2 (.mv (.c (.d (.int .i64 2))))])
    .ret)
    .skip))
  (.seq (.reg [.r 2 (.mv (.c (.d (.int .i64 0))))])
  .ret)))))))))
theorem k47 : fits Tryz.prog 15 Tryz.f15 c102 [.t 2] 1 = true := by kernel_rfl
set_option maxRecDepth 100000 in
set_option maxHeartbeats 40000000 in
noncomputable def w13 : (∀ (x0 : T5), {m : Option (Int) // ∀ r, m = some r → PureSpec Tryz.prog 14 [.agg (r9 x0)] (.int .i64 r)}) × (∀ (x0 : T5), {m : Option (Int) // ∀ r, m = some r → PureSpec Tryz.prog 15 [.agg (r9 x0)] (.int .i64 r)}) := by
  refine ⟨?g0, ?g1⟩
  case' g0 => (intro x0; apply Subtype.mk; intro r hm; apply pure_walk Tryz.func14 k46; unfold c97)
  case' g1 => (intro x0; apply Subtype.mk; intro r hm; apply pure_walk Tryz.func15 k47; unfold c102)
  all_goals (repeat' (first | with_reducible refine W_seq ?_ | with_reducible refine W_reg ?_ | with_reducible refine W_regD ?_ | with_reducible refine W_block ?_ | with_reducible refine W_skip ?_ | with_reducible refine W_ret ?_ | with_reducible refine W_exit ?_ | with_reducible refine O_nil ?_ | with_reducible refine K_seq ?_ | with_reducible refine K_seqE ?_ | with_reducible refine K_seqR ?_ | with_reducible refine K_block ?_ | with_reducible refine K_blockR ?_ | with_reducible refine K_blockE ?_ | ((with_reducible apply K_blockN); decide) | with_reducible refine O_o2r ?_ | ((with_reducible apply O_idxr hm); (iterate 2 (simp only [push_cast, seval]; rfl)); (intro _; rfl); intro e hm) | ((with_reducible apply O_idxVr hm); (iterate 3 (simp only [push_cast, seval]; rfl)); intro e hm) | ((with_reducible apply O_slcr hm); (iterate 3 (simp only [push_cast, seval]; rfl)); (intro _; rfl); intro e hm) | ((with_reducible apply O_r); (simp only [push_cast, seval]; rfl); (first | exact trivial | omega)) | ((with_reducible apply O_ldV1r hm); (iterate 2 (simp only [push_cast, seval]; rfl)); (intro _; rfl); intro e hm) | ((with_reducible apply O_ldAVr hm); (iterate 2 (simp only [push_cast, seval]; rfl)); (intro _; rfl); intro e hm) | ((with_reducible apply O_strr hm); (iterate 2 (simp only [push_cast, seval]; rfl)); intro hm) | ((with_reducible apply O_or hm); (simp only [push_cast, seval]; rfl); rfl; intro v hm; rotate_left; intro v g hm) | ((with_reducible apply W_condT); (focus (simp only [push_cast, seval]; done))) | ((with_reducible apply W_condF); (focus (simp only [push_cast, seval]; done))) | ((with_reducible apply O_cF hm); (simp only [push_cast, seval]; rfl); (first | apply s29 _ | apply s30 _ | apply s31 _ | apply s17 _ _ _ | apply s38 _ _ | apply s25 _ | apply s26 _ | apply s27 _ | apply s39 _ _); (any_goals ((repeat' (first | rfl | (with_reducible first | apply ft1 | apply ft2 | apply ft4 | apply ft3 | apply ft5 | apply f_optN | apply f_optS | apply f_some | apply f_tup | apply f_agg | apply f_ptr | apply f_fn | apply dv_slice | apply sv_d | apply f_cons | apply fold_nil | apply fold_cons | apply fold_app | apply f_rowI | apply f_rowY | apply f_rowS | apply f_rowB | apply f_rowL) | (with_reducible apply f_byte; decide))); done)); intro x hm) | ((with_reducible apply O_w); (simp only [push_cast, seval]; rfl); (first | exact trivial | omega)) | ((with_reducible apply O_stVA hm); (iterate 4 (simp only [push_cast, seval]; rfl)); (focus ((repeat' (first | rfl | (with_reducible first | apply ft1 | apply ft2 | apply ft4 | apply ft3 | apply ft5 | apply f_optN | apply f_optS | apply f_some | apply f_tup | apply f_agg | apply f_ptr | apply f_fn | apply dv_slice | apply sv_d | apply f_cons | apply fold_nil | apply fold_cons | apply fold_app | apply f_rowI | apply f_rowY | apply f_rowS | apply f_rowB | apply f_rowL) | (with_reducible apply f_byte; decide))); done)); decide; (intro _; rfl); intro e hm) | ((with_reducible apply S_condB hm); (simp only [push_cast, seval]; rfl); intro hm; rotate_left; intro hm) | ((with_reducible apply K_endS hm); (focus (simp only [resOf, resL, RV.get, push_cast, seval]; rfl)); (focus ((repeat' (first | rfl | (with_reducible first | apply ft1 | apply ft2 | apply ft4 | apply ft3 | apply ft5 | apply f_optN | apply f_optS | apply f_some | apply f_tup | apply f_agg | apply f_ptr | apply f_fn | apply dv_slice | apply sv_d | apply f_cons | apply fold_nil | apply fold_cons | apply fold_app | apply f_rowI | apply f_rowY | apply f_rowS | apply f_rowB | apply f_rowL) | (with_reducible apply f_byte; decide))); done))) | ((with_reducible apply K_bool hm); (simp only [push_cast, seval]; rfl)) | ((with_reducible apply K_leave hm); intro r hm) | ((with_reducible apply K_leaveR hm); intro r hm) | ((apply S_loopY (b := 1) (X := c96) (x := c95) rfl (fun (c : SV × SV × SV) (s : Int) => st [(1, c.1), (40, c.2.1), (41, c.2.2), (42, .d (.int .i64 s))] []) (c := (_, _, _)) (s0 := _) hm); (focus (first | (dsimp only; done) | (dsimp only; rfl) | rfl)); (with_reducible refine Then.mk ?_ ?_)) | ((apply S_loopY (b := 2) (X := c99) (x := c98) rfl (fun (c : SV × SV × SV) (s : Int × Int) => st [(1, c.1), (3, c.2.1), (4, .d (.int .i64 s.1)), (5, c.2.2), (7, .d (.int .i64 s.2))] []) (c := (_, _, _)) (s0 := (_, _)) hm); (focus (first | (dsimp only; done) | (dsimp only; rfl) | rfl)); (with_reducible refine Then.mk ?_ ?_)) | ((apply S_loopY (b := 0) (X := c101) (x := c100) rfl (fun (c : SV) (s : Int × Int × Int) => st [(1, c), (3, .d (.int .i64 s.1)), (4, .d (.int .i64 s.2.1)), (5, .d (.int .i64 s.2.2))] []) (c := _) (s0 := (_, _, _)) hm); (focus (first | (dsimp only; done) | (dsimp only; rfl) | rfl)); (with_reducible refine Then.mk ?_ ?_)) | ((apply K_next (s' := (_, _, _)) hm); (focus (first | (dsimp only; done) | (dsimp only; rfl) | rfl))) | ((apply K_brk (s' := (_, _, _)) hm); (focus (first | (dsimp only; done) | (dsimp only; rfl) | rfl))) | ((apply K_next (s' := (_, _)) hm); (focus (first | (dsimp only; done) | (dsimp only; rfl) | rfl))) | ((apply K_brk (s' := (_, _)) hm); (focus (first | (dsimp only; done) | (dsimp only; rfl) | rfl))) | ((apply K_next (s' := _) hm); (focus (first | (dsimp only; done) | (dsimp only; rfl) | rfl))) | ((apply K_brk (s' := _) hm); (focus (first | (dsimp only; done) | (dsimp only; rfl) | rfl))) | (((with_reducible apply K_brkN hm); (focus decide); intro r hm)) | (((with_reducible apply K_brkR hm); intro r hm)) | (((with_reducible apply LoopB.of); (focus (first | (dsimp only; done) | (dsimp only; rfl) | rfl)); (focus ((intro _; repeat' (first | with_reducible exact impC_end | with_reducible exact impC_endF | with_reducible refine impC_seq ?_ | with_reducible refine impC_block ?_ | ((with_reducible refine impC_rnd ?_); intro _) | ((with_reducible refine impC_brk ?_); intro _))))); (intro s o hm; first | unfold c95 | unfold c98 | unfold c100); rotate_left; intro s hm)) | (((apply imp_stT; (repeat' (first | with_reducible exact keepT_nil | with_reducible exact keepC_nil | with_reducible apply keepT_cons | with_reducible apply keepC_cons | ((with_reducible apply svle_eq); (focus (first | (simp only [push_cast, seval]; rfl) | rfl)); (focus ((repeat' (first | rfl | (with_reducible first | apply ft1 | apply ft2 | apply ft4 | apply ft3 | apply ft5 | apply f_optN | apply f_optS | apply f_some | apply f_tup | apply f_agg | apply f_ptr | apply f_fn | apply dv_slice | apply sv_d | apply f_cons | apply fold_nil | apply fold_cons | apply fold_app | apply f_rowI | apply f_rowY | apply f_rowS | apply f_rowB | apply f_rowL) | (with_reducible apply f_byte; decide))); done))) | ((with_reducible apply svle_td); (focus (first | (simp only [push_cast, seval]; rfl) | rfl)); (focus (first | (simp only [push_cast, seval]; rfl) | rfl)); (focus ((repeat' (first | rfl | (with_reducible first | apply ft1 | apply ft2 | apply ft4 | apply ft3 | apply ft5 | apply f_optN | apply f_optS | apply f_some | apply f_tup | apply f_agg | apply f_ptr | apply f_fn | apply dv_slice | apply sv_d | apply f_cons | apply fold_nil | apply fold_cons | apply fold_app | apply f_rowI | apply f_rowY | apply f_rowS | apply f_rowB | apply f_rowL) | (with_reducible apply f_byte; decide))); done))) | ((with_reducible apply chle_eq); (focus (first | (simp only [push_cast, seval]; rfl) | rfl)); (first | with_reducible exact chle_rfl rfl | with_reducible exact chle_map0 | with_reducible apply chle_vec | with_reducible apply chle_box)) | (with_reducible first | apply ct1 | apply ct2 | apply ct4 | apply ct3 | apply ct5 | apply r_shS | apply r_shI | apply r_rflO | apply r_oneO | apply r_appO | apply r_nilO | apply c_ownN | apply c_ownL | apply vc_rfl | apply vc_nil | apply vc_cons | apply r_rfl | apply r_rows | apply r_nil | apply r_app | apply r_cons | apply c_rowI | apply c_rowY | apply c_rowS | apply c_rowB | apply c_rowL))); done)))))
noncomputable def m44 (x0 : T5) : Option (Int) := (w13.1 x0).1
theorem s40 (x0 : T5) : ∀ r, m44 x0 = some r → PureSpec Tryz.prog 14 [.agg (r9 x0)] (.int .i64 r) := (w13.1 x0).2
noncomputable def m45 (x0 : T5) : Option (Int) := (w13.2 x0).1
theorem s41 (x0 : T5) : ∀ r, m45 x0 = some r → PureSpec Tryz.prog 15 [.agg (r9 x0)] (.int .i64 r) := (w13.2 x0).2
end Go.Proofs.YthailknfgcegoaaGreatDoor
