/-
  wire.Heading, by hand: the one place where bytes of a constant string are appended to.
-/
import Derived.Test.YteilhjdpbjgdpaaDoorG1
import Derived.Test.YteilhjdpbjgdpaaDoorLibO
import Derived.Lib.SlBytesConst
import Derived.ArgAppend
import Derived.KernelRfl
namespace Go.Proofs.YteilhjdpbjgdpaaDoor
set_option linter.unusedSimpArgs false
set_option linter.unusedVariables false
open Go.RowKit Go.Shelf Go.Lib

def hbytes (x : Tapi_Marks) : List UInt8 := [77, 82, 75, x.fElement, x.fPart, x.fRepeat, if x.fEscape = 0 then 32 else x.fEscape, x.fEnd]
noncomputable def m_wire_Heading (x0 : Tapi_Marks) : Option (List UInt8 × Int) := (m_wire_CheckMarks x0).bind fun c => if c = 0 then some (hbytes x0, 0) else some ([], c)
theorem alloc_row (w : World) (C : Array Value) (e : TypeId) (m : Nat × Nat) (j : Nat) (u : Value) (h : C.toList[j]? = some u) : (w.alloc (.cells C e m)).cell? ((⟨w.heap.size, 0, none⟩ : Addr).add j) = some u := by
  have hh : (w.alloc (.cells C e m)).heap[w.heap.size]? = some (.cells C e m) := by
    show (w.heap.push _)[w.heap.size]? = _
    simp
  rw [Addr.add_lit]
  unfold World.cell?
  rw [hh]
  simpa using h
theorem alloc_row2 (w : World) (o : Obj) (C : Array Value) (e : TypeId) (m : Nat × Nat) (j : Nat) (u : Value) (h : C.toList[j]? = some u) : ((w.alloc o).alloc (.cells C e m)).cell? ((⟨w.heap.size + 1, 0, none⟩ : Addr).add j) = some u := by
  have hs : (w.alloc o).heap.size = w.heap.size + 1 := by show (w.heap.push _).size = _; rw [Array.size_push]
  have := alloc_row (w.alloc o) C e m j u h
  rwa [hs] at this
theorem esc_t (b : UInt8) (h : ((b.toNat : Int) == 0) = true) : (if b = 0 then (32 : UInt8) else b) = 32 := by
  have h1 : (b.toNat : Int) = 0 := by simpa using h
  have h2 : b = 0 := UInt8.toNat_inj.1 (by show b.toNat = 0; omega)
  rw [if_pos h2]
theorem esc_f (b : UInt8) (h : ((b.toNat : Int) == 0) = false) : (if b = 0 then (32 : UInt8) else b) = b := by
  rw [if_neg]
  rintro rfl
  simp at h
theorem hrow (x0 : Tapi_Marks) {n : Nat} (M : Nat → Prop) {w2 : World} {v' : Value} {e : UInt8} (hM : ∀ b, M b → b < n) (he : (if x0.fEscape = 0 then (32 : UInt8) else x0.fEscape) = e)
    (ho : w2.ownsRow n 5 1 v' 8 [.int .u8 77, .int .u8 82, .int .u8 75, .int .u8 x0.fElement.toNat, .int .u8 x0.fPart.toNat, .int .u8 x0.fRepeat.toNat, .int .u8 e.toNat, .int .u8 x0.fEnd.toNat]) :
    Rep w2 M (.tup [.slice (List.map rowY (hbytes x0)), .int .i64 0]) (.tuple #[v', .int .i64 0]) := by
  subst he
  have h := owned_rep (w := { (default : World) with heap := (List.replicate n (.cells #[] 0)).toArray }) (M := M) (w' := w2) (e := 5) (size := 1) (v := v') (rows := List.map rowY (hbytes x0)) (fun b hb => by simpa using hM b hb) (by intro r hr; obtain ⟨q, -, rfl⟩ := List.mem_map.1 hr; rfl) (by simpa [hbytes] using ho) (by simp [RepL, Rep, hbytes, rowY]) (by simp [Value.oneCell'])
  unfold Rep
  refine ⟨[v', .int .i64 0], rfl, ?_⟩
  simp only [RepL]
  exact ⟨_, _, rfl, h, _, _, rfl, by simp only [Rep], rfl⟩
set_option maxRecDepth 100000 in
theorem inf5 : ∃ i z, Tryd.prog.info? 5 = some i ∧ i.zero = some z ∧ i.size = 1 ∧ i.bytes = 1 ∧ z.cells.size = 1 := ⟨_, _, rfl, rfl, rfl, rfl, rfl⟩
set_option maxRecDepth 100000 in
set_option maxHeartbeats 4000000 in
theorem spec_wire_Heading (x0 : Tapi_Marks) : ∀ r, m_wire_Heading x0 = some r → PureSpec Tryd.prog 15 [.agg (rTapi_Marks x0)] (.tup [.slice (List.map rowY r.1), .int .i64 r.2]) := by
  intro r hr
  unfold m_wire_Heading at hr
  cases hc : m_wire_CheckMarks x0 with
  | none => rw [hc] at hr; cases hr
  | some c =>
  rw [hc] at hr
  simp only [Option.bind_some] at hr
  have hp := spec_wire_CheckMarks x0 c hc
  refine ⟨by kernel_rfl, fun w M vs hM hv => ?_⟩
  simp only [RepL, Rep, rTapi_Marks] at hv
  obtain ⟨u, us, rfl, ⟨vs, rfl, -, u0, us0, rfl, rfl, u1, us1, rfl, rfl, u2, us2, rfl, rfl, u3, us3, rfl, rfl, u4, us4, rfl, rfl, rfl⟩, rfl⟩ := hv
  have hcon := hp.2 (w.alloc (.cells #[.int .u8 x0.fElement.toNat, .int .u8 x0.fPart.toNat, .int .u8 x0.fRepeat.toNat, .int .u8 x0.fEscape.toNat, .int .u8 x0.fEnd.toNat] 23)) M _ (fun b hb => by have := hM b hb; show b < (w.heap.push _).size; rw [Array.size_push]; omega) (by simp only [RepL, Rep, rTapi_Marks]; exact ⟨_, _, rfl, ⟨_, rfl, by simp [Value.oneCell'], _, _, rfl, rfl, _, _, rfl, rfl, _, _, rfl, rfl, _, _, rfl, rfl, _, _, rfl, rfl, rfl⟩, rfl⟩)
  have kc := fun (w : World) (C : Array Value) (n c : Nat) => Lib.run_convert_bytes_const (P := Tryd.prog) w 24 5 C n c Tryd.underlying24 Tryd.underlying5
  have hsz : (w.alloc (.cells #[.int .u8 x0.fElement.toNat, .int .u8 x0.fPart.toNat, .int .u8 x0.fRepeat.toNat, .int .u8 x0.fEscape.toNat, .int .u8 x0.fEnd.toNat] 23)).heap.size = w.heap.size + 1 := by show (w.heap.push _).size = _; rw [Array.size_push]
  have hcell : ∀ k, (w.alloc (.cells #[.int .u8 x0.fElement.toNat, .int .u8 x0.fPart.toNat, .int .u8 x0.fRepeat.toNat, .int .u8 x0.fEscape.toNat, .int .u8 x0.fEnd.toNat] 23)).cell? ⟨w.heap.size, k, none⟩ = (#[.int .u8 x0.fElement.toNat, .int .u8 x0.fPart.toNat, .int .u8 x0.fRepeat.toNat, .int .u8 x0.fEscape.toNat, .int .u8 x0.fEnd.toNat] : Array Value)[k]? := by
    intro k
    have hh : (w.alloc (.cells #[.int .u8 x0.fElement.toNat, .int .u8 x0.fPart.toNat, .int .u8 x0.fRepeat.toNat, .int .u8 x0.fEscape.toNat, .int .u8 x0.fEnd.toNat] 23)).heap[w.heap.size]? = some (.cells #[.int .u8 x0.fElement.toNat, .int .u8 x0.fPart.toNat, .int .u8 x0.fRepeat.toNat, .int .u8 x0.fEscape.toNat, .int .u8 x0.fEnd.toNat] 23) := by
      show (w.heap.push _)[w.heap.size]? = _
      simp
    unfold World.cell?
    rw [hh]
    rfl
  by_cases h0 : c = 0
  · subst h0
    obtain ⟨i0, z, hi, hz0, hz1, hz2, hzs⟩ := inf5
    go_enter Tryd.func15, Tryd.ntmps15
    go_wp2_with (first | (go_at_call 24; refine hcon.mono ?_; rintro e w' ⟨v, rfl, hrep, hB⟩; simp only [Rep] at hrep; subst hrep; have c0 := (hB.cell (p := ⟨w.heap.size, 0, none⟩) (by rw [hsz]; exact Nat.lt_succ_self _)).trans (hcell 0); have c1 := (hB.cell (p := ⟨w.heap.size, 1, none⟩) (by rw [hsz]; exact Nat.lt_succ_self _)).trans (hcell 1); have c2 := (hB.cell (p := ⟨w.heap.size, 2, none⟩) (by rw [hsz]; exact Nat.lt_succ_self _)).trans (hcell 2); have c3 := (hB.cell (p := ⟨w.heap.size, 3, none⟩) (by rw [hsz]; exact Nat.lt_succ_self _)).trans (hcell 3); have c4 := (hB.cell (p := ⟨w.heap.size, 4, none⟩) (by rw [hsz]; exact Nat.lt_succ_self _)).trans (hcell 4); dsimp at c0 c1 c2 c3 c4; have d0 := fun o => Lib.cell?_alloc_marked (W := w') o c0; have d1 := fun o => Lib.cell?_alloc_marked (W := w') o c1; have d2 := fun o => Lib.cell?_alloc_marked (W := w') o c2; have d3 := fun o => Lib.cell?_alloc_marked (W := w') o c3; have d4 := fun o => Lib.cell?_alloc_marked (W := w') o c4) | (at_builtin; refine wpList_append_grows _ rfl _ _ 24 rfl 5 i0 z 1 1 Tryd.underlying24 hi hz0 hz1 hz2 hzs (by decide) _ 3 3 [.int .u8 77, .int .u8 82, .int .u8 75] rfl (fun h => by cases h) rfl (by rintro b ⟨⟩ j u hj; exact Lib.cell?_alloc_marked _ (alloc_row _ _ _ _ j u hj)) _ 5 _ [.int .u8 x0.fElement.toNat, .int .u8 x0.fPart.toNat, .int .u8 x0.fRepeat.toNat, .int .u8 32, .int .u8 x0.fEnd.toNat] rfl rfl (by intro j u hj; exact alloc_row2 _ _ _ _ _ j u hj) (by simp [Value.oneCell']) (by decide) (by decide) (by decide) ?_) | (at_builtin; refine wpList_append_grows _ rfl _ _ 24 rfl 5 i0 z 1 1 Tryd.underlying24 hi hz0 hz1 hz2 hzs (by decide) _ 3 3 [.int .u8 77, .int .u8 82, .int .u8 75] rfl (fun h => by cases h) rfl (by rintro b ⟨⟩ j u hj; exact Lib.cell?_alloc_marked _ (alloc_row _ _ _ _ j u hj)) _ 5 _ [.int .u8 x0.fElement.toNat, .int .u8 x0.fPart.toNat, .int .u8 x0.fRepeat.toNat, .int .u8 x0.fEscape.toNat, .int .u8 x0.fEnd.toNat] rfl rfl (by intro j u hj; exact alloc_row2 _ _ _ _ _ j u hj) (by simp [Value.oneCell']) (by decide) (by decide) (by decide) ?_))
    · intro v' w2 hown hgrow
      have he : ((x0.fEscape.toNat : Int) == 0) = true := by assumption
      rw [if_pos trivial] at hr
      cases hr
      have hW : Below w.heap.size w w' := ((Below.refl _ w).alloc (Nat.le_refl _) _).trans (hB.mono (by rw [hsz]; omega))
      have hle := hW.size
      have hB2 : Below w.heap.size w w2 := ((hW.alloc hle _).alloc (by show _ ≤ (w'.heap.push _).size; rw [Array.size_push]; omega) _).grown hgrow (by show _ ≤ ((w'.heap.push _).push _).size; rw [Array.size_push, Array.size_push]; omega) (by intro k hk; cases hk)
      go_wp2
      go_ret2
      exact ⟨_, rfl, hrow x0 M (fun b hb => by have := hM b hb; omega) (esc_t _ he) hown, hB2⟩
    · intro v' w2 hown hgrow
      have he : ((x0.fEscape.toNat : Int) == 0) = false := by assumption
      rw [if_pos trivial] at hr
      cases hr
      have hW : Below w.heap.size w w' := ((Below.refl _ w).alloc (Nat.le_refl _) _).trans (hB.mono (by rw [hsz]; omega))
      have hle := hW.size
      have hB2 : Below w.heap.size w w2 := ((hW.alloc hle _).alloc (by show _ ≤ (w'.heap.push _).size; rw [Array.size_push]; omega) _).grown hgrow (by show _ ≤ ((w'.heap.push _).push _).size; rw [Array.size_push, Array.size_push]; omega) (by intro k hk; cases hk)
      go_wp2
      go_ret2
      exact ⟨_, rfl, hrow x0 M (fun b hb => by have := hM b hb; omega) (esc_f _ he) hown, hB2⟩
  · go_enter Tryd.func15, Tryd.ntmps15
    go_wp2_with (go_at_call 24; refine hcon.mono ?_; rintro e w' ⟨v, rfl, hrep, hB⟩; simp only [Rep] at hrep; subst hrep)
    rw [if_neg h0] at hr
    cases hr
    go_ret2
    refine ⟨_, rfl, ?_, ((Below.refl _ w).alloc (Nat.le_refl _) _).trans (hB.mono (by rw [hsz]; omega))⟩
    simp only [Rep, RepL]
    exact ⟨_, rfl, _, _, rfl, ⟨none, 0, rfl, Nat.le_refl _, fun _ => rfl, .inl rfl⟩, _, _, rfl, rfl, rfl⟩
end Go.Proofs.YteilhjdpbjgdpaaDoor
