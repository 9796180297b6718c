/-
  How the parameters of the laws of this seat read, and a world in which the listed tables lie (printed by wip/tool/row.py).
-/
import Derived.Test.YteilhjdpbjgdpaaDoorCards
import Derived.Test.YteilhjdpbjgdpaaDoorTie
import Derived.Test.YteilhjdpbjgdpaaDoorEngR
import Derived.Test.YteilhjdpbjgdpaaDoorG3
namespace Go.Proofs.YteilhjdpbjgdpaaDoor
open Go.ChangeShapes Go.WideShapes Go.ChangeAt Go.RowKit
set_option linter.unusedSimpArgs false
set_option linter.unusedVariables false
theorem and_t {a b : Bool} (h1 : a = true) (h2 : b = true) : (a && b) = true := by rw [h1, h2]; rfl
/-- How a value of a type reads. -/
def Wt (P : Program) (n : Nat) (t : TypeId) {α : Type} (row : α → List DV) (ok : α → Prop) : Prop := ∀ m ds, WT P (m + n) t ds → ∃ x, ds = row x ∧ ok x
theorem Wt.up {P : Program} {n : Nat} {t : TypeId} {α : Type} {row : α → List DV} {ok : α → Prop} (h : Wt P n t row ok) (k : Nat) : Wt P (n + k) t row ok := fun m ds hd => h (m + k) ds (by rwa [show m + k + n = m + (n + k) by omega])
def okI (n : Int) : Prop := -9223372036854775808 ≤ n ∧ n ≤ 9223372036854775807
def okS (s : List UInt8) : Prop := s.length ≤ 9223372036854775807
def okB (_ : Bool) : Prop := True
def okY (_ : UInt8) : Prop := True
def okL {α : Type} (ok : α → Prop) (l : List α) : Prop := l.length ≤ 9223372036854775807 ∧ ∀ a ∈ l, ok a
theorem WT_struct {P : Program} {n : Nat} {t : TypeId} {fs : Array Field} {ds : List DV} (hu : P.underlying t = some (.struct fs)) (h : WT P (n + 1) t ds) : WTS (WT P n) fs.toList ds := by
  simp only [WT, hu] at h; exact h
theorem wt_int {P : Program} {t : TypeId} (hu : P.underlying t = some (.int .i64)) : Wt P 1 t rowI okI := by
  intro m ds h
  simp only [WT, hu] at h
  obtain ⟨k, rfl, hw⟩ := h
  refine ⟨k, rfl, ?_⟩
  simp [Lit.wf] at hw
  have e : IntKind.i64.min = -9223372036854775808 := by decide
  unfold okI; omega
theorem wt_byte {P : Program} {t : TypeId} (hu : P.underlying t = some (.int .u8)) : Wt P 1 t rowY okY := by
  intro m ds h
  simp only [WT, hu] at h
  obtain ⟨k, rfl, hw⟩ := h
  simp [Lit.wf] at hw
  have e : IntKind.u8.min = 0 := by decide
  have e2 : IntKind.u8.max = 255 := by decide
  refine ⟨UInt8.ofNat k.toNat, ?_, trivial⟩
  have hk : 0 ≤ k ∧ k ≤ 255 := by omega
  unfold rowY
  rw [UInt8.toNat_ofNat_of_lt' (by show k.toNat < 256; omega)]
  congr 2; omega
theorem wt_bool {P : Program} {t : TypeId} (hu : P.underlying t = some .bool) : Wt P 1 t rowB okB := by
  intro m ds h
  simp only [WT, hu] at h
  obtain ⟨b, rfl⟩ := h
  exact ⟨b, rfl, trivial⟩
theorem wt_str {P : Program} {t : TypeId} (hu : P.underlying t = some .string) : Wt P 1 t rowS okS := by
  intro m ds h
  simp only [WT, hu] at h
  obtain ⟨b, rfl, hl⟩ := h
  exact ⟨b, rfl, by unfold okS; unfold maxLen at hl; omega⟩
theorem wt_slice {P : Program} {n : Nat} {t e : TypeId} {α : Type} {row : α → List DV} {ok : α → Prop} (hu : P.underlying t = some (.slice e)) (he : Wt P n e row ok) : Wt P (n + 1) t (rowL row) (okL ok) := by
  intro m ds h
  rw [show m + (n + 1) = (m + n) + 1 by omega] at h
  simp only [WT, hu] at h
  obtain ⟨rows, rfl, hl, hr⟩ := h
  have : ∀ rows : List (List DV), (∀ r ∈ rows, WT P (m + n) e r) → ∃ l : List α, rows = l.map row ∧ ∀ a ∈ l, ok a := by
    intro rows
    induction rows with
    | nil => intro _; exact ⟨[], rfl, by simp⟩
    | cons r rows ih =>
      intro h
      obtain ⟨a, rfl, ha⟩ := he m r (h r (by simp))
      obtain ⟨l, rfl, hl⟩ := ih (fun r hr => h r (by simp [hr]))
      exact ⟨a :: l, rfl, by simpa using ⟨ha, hl⟩⟩
  obtain ⟨l, rfl, hok⟩ := this rows hr
  exact ⟨l, rfl, by unfold maxLen at hl; simp at hl; omega, hok⟩
theorem ownK : ownKnob Tryd.prog.godebug = none := by kernel_rfl
theorem laidOut : laidOutB Tryd.prog = true := by kernel_rfl
theorem wt5 : Wt Tryd.prog 1 5 rowY okY := wt_byte Tryd.underlying5
def okTapi_Marks (x : Tapi_Marks) : Prop := okY x.fElement ∧ okY x.fPart ∧ okY x.fRepeat ∧ okY x.fEscape ∧ okY x.fEnd
set_option maxRecDepth 100000 in
theorem wt23 : Wt Tryd.prog 2 23 rTapi_Marks okTapi_Marks := by
  intro m ds h
  have h := WT_struct Tryd.underlying23 h
  simp only [WTS] at h
  obtain ⟨a0, _, rfl, h0, a1, _, rfl, h1, a2, _, rfl, h2, a3, _, rfl, h3, a4, _, rfl, h4, rfl⟩ := h
  obtain ⟨x0, rfl, o0⟩ := (wt5.up 0) m _ h0
  obtain ⟨x1, rfl, o1⟩ := (wt5.up 0) m _ h1
  obtain ⟨x2, rfl, o2⟩ := (wt5.up 0) m _ h2
  obtain ⟨x3, rfl, o3⟩ := (wt5.up 0) m _ h3
  obtain ⟨x4, rfl, o4⟩ := (wt5.up 0) m _ h4
  refine ⟨⟨x0, x1, x2, x3, x4⟩, ?_, o0, o1, o2, o3, o4⟩
  simp only [rTapi_Marks, rowI, rowY, rowS, rowB, rowL, List.append_assoc, List.cons_append, List.nil_append, List.append_nil]
theorem wt9 : Wt Tryd.prog 1 9 rowS okS := wt_str Tryd.underlying9
theorem wt91 : Wt Tryd.prog 2 91 (rowL rowS) (okL okS) := wt_slice Tryd.underlying91 wt9
theorem wt85 : Wt Tryd.prog 3 85 (rowL (rowL rowS)) (okL (okL okS)) := wt_slice Tryd.underlying85 wt91
def okTapi_Element (x : Tapi_Element) : Prop := (okL (okL okS)) x.fRepeats
set_option maxRecDepth 100000 in
theorem wt87 : Wt Tryd.prog 4 87 rTapi_Element okTapi_Element := by
  intro m ds h
  have h := WT_struct Tryd.underlying87 h
  simp only [WTS] at h
  obtain ⟨a0, _, rfl, h0, rfl⟩ := h
  obtain ⟨x0, rfl, o0⟩ := (wt85.up 0) m _ h0
  refine ⟨⟨x0⟩, ?_, o0⟩
  simp only [rTapi_Element, rowI, rowY, rowS, rowB, rowL, List.append_assoc, List.cons_append, List.nil_append, List.append_nil]
theorem wt47 : Wt Tryd.prog 5 47 (rowL rTapi_Element) (okL okTapi_Element) := wt_slice Tryd.underlying47 wt87
def okTapi_Segment (x : Tapi_Segment) : Prop := okS x.fTag ∧ (okL okTapi_Element) x.fElements
set_option maxRecDepth 100000 in
theorem wt49 : Wt Tryd.prog 6 49 rTapi_Segment okTapi_Segment := by
  intro m ds h
  have h := WT_struct Tryd.underlying49 h
  simp only [WTS] at h
  obtain ⟨a0, _, rfl, h0, a1, _, rfl, h1, rfl⟩ := h
  obtain ⟨x0, rfl, o0⟩ := (wt9.up 4) m _ h0
  obtain ⟨x1, rfl, o1⟩ := (wt47.up 0) m _ h1
  refine ⟨⟨x0, x1⟩, ?_, o0, o1⟩
  simp only [rTapi_Segment, rowI, rowY, rowS, rowB, rowL, List.append_assoc, List.cons_append, List.nil_append, List.append_nil]
theorem wt34 : Wt Tryd.prog 7 34 (rowL rTapi_Segment) (okL okTapi_Segment) := wt_slice Tryd.underlying34 wt49
theorem wt44 : Wt Tryd.prog 3 44 (rowL rTapi_Marks) (okL okTapi_Marks) := wt_slice Tryd.underlying44 wt23
theorem wt4 : Wt Tryd.prog 1 4 rowB okB := wt_bool Tryd.underlying4
theorem wt3 : Wt Tryd.prog 1 3 rowI okI := wt_int Tryd.underlying3
def okTapi_Spot (x : Tapi_Spot) : Prop := okI x.fElement ∧ okI x.fRepeat ∧ okI x.fPart
set_option maxRecDepth 100000 in
theorem wt51 : Wt Tryd.prog 2 51 rTapi_Spot okTapi_Spot := by
  intro m ds h
  have h := WT_struct Tryd.underlying51 h
  simp only [WTS] at h
  obtain ⟨a0, _, rfl, h0, a1, _, rfl, h1, a2, _, rfl, h2, rfl⟩ := h
  obtain ⟨x0, rfl, o0⟩ := (wt3.up 0) m _ h0
  obtain ⟨x1, rfl, o1⟩ := (wt3.up 0) m _ h1
  obtain ⟨x2, rfl, o2⟩ := (wt3.up 0) m _ h2
  refine ⟨⟨x0, x1, x2⟩, ?_, o0, o1, o2⟩
  simp only [rTapi_Spot, rowI, rowY, rowS, rowB, rowL, List.append_assoc, List.cons_append, List.nil_append, List.append_nil]
theorem wt24 : Wt Tryd.prog 2 24 (rowL rowY) (okL okY) := wt_slice Tryd.underlying24 wt5
def layVals : Nat → DataW Unit → List Value
  | 0, _ => []
  | _ + 1, .lit (.int k n) => [.int k n]
  | n + 1, .agg ps => ps.flatMap (layVals n)
  | _ + 1, _ => []
/-- The settled world, with the listed tables in it. -/
def layCells (l : List Value) : Obj → Obj
  | .cells _ t frozen => .cells l.toArray t frozen
  | o => o
noncomputable def laidWorld (os : Os) : World :=
  { World.holding Tryd.prog os ⟨#[], #[], []⟩ with
    heap := (((World.holding Tryd.prog os ⟨#[], #[], []⟩).heap.modify 2 (layCells (layVals 5 Rows.laid_unicode_utf8_acceptRanges))).modify 1 (layCells (layVals 5 Rows.laid_unicode_utf8_first))) }
end Go.Proofs.YteilhjdpbjgdpaaDoor
