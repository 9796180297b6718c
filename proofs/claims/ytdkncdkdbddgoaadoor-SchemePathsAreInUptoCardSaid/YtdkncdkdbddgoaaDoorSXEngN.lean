/-
  The engine, part N: a law's arguments, read by the form's reader, are data values of their types.
-/
import Derived.Test.YtdkncdkdbddgoaaDoorSXEngM
import GoSem.ClaimChange
import GoSem.ClaimWide
import Derived.ChangeArms
import Derived.Lib.Strings
namespace Go.Proofs.YtdkncdkdbddgoaaDoor
set_option linter.unusedSimpArgs false
set_option linter.unusedVariables false
open Go.RowKit

mutual
/-- How many values and letters a datum holds (the measure of the given rows' second form). -/
def bulkW {H : Type} : DataW H → Nat
  | .lit (.string bytes) => bytes.length + 1
  | .lit _ => 1
  | .nil => 1
  | .ptr d => bulkW d + 1
  | .slice elems spare => bulkWs elems + bulkWs spare + 1
  | .agg parts => bulkWs parts + 1
  | .iface _ d => bulkW d + 1
  | .map entries => bulkWe entries + 1
  | .held _ => 1
def bulkWs {H : Type} : List (DataW H) → Nat
  | [] => 0
  | d :: r => bulkW d + bulkWs r
def bulkWe {H : Type} : List (Lit × DataW H) → Nat
  | [] => 0
  | x :: r => bulkWx x + bulkWe r
def bulkWx {H : Type} : Lit × DataW H → Nat
  | (.string bytes, d) => bytes.length + bulkW d + 1
  | (_, d) => bulkW d + 1
end

mutual
def dvB : DV → Nat
  | .str s => s.length + 1
  | .slice rows => dvBR rows + 1
  | .agg cs => dvBL cs
  | .tup cs => dvBL cs
  | .ptr cs => dvBL cs + 1
  | .fn _ _ => 1
  | .int _ _ => 1
  | .bool _ => 1
  | .raw _ => 1
  | .map _ _ => 1
  | .err => 1
  | .any => 1
def dvBL : List DV → Nat
  | [] => 0
  | c :: cs => dvB c + dvBL cs
def dvBR : List (List DV) → Nat
  | [] => 0
  | r :: rs => dvBL r + dvBR rs
end

theorem dvBL_append : ∀ (a b : List DV), dvBL (a ++ b) = dvBL a + dvBL b
  | [], b => by simp [dvBL]
  | c :: a, b => by simp [dvBL, dvBL_append a b]; omega

def tiles (P : Program) : Nat → List Field → Nat → Bool
  | o, [], n => o == n
  | o, f :: fs, n => f.offset == o && tiles P (o + P.cellsOf f.type) fs n

def WTS (W : TypeId → List DV → Prop) : List Field → List DV → Prop
  | [], ds => ds = []
  | f :: fs, ds => ∃ a rest, ds = a ++ rest ∧ W f.type a ∧ WTS W fs rest

/-- These cells are a value of type t. -/
def WT (P : Program) : Nat → TypeId → List DV → Prop
  | 0, _, _ => False
  | n + 1, t, ds => match P.underlying t with
    | some .bool => ∃ b, ds = [.bool b]
    | some (.int k) => ∃ m, ds = [.int k m] ∧ (Lit.int k m).wf = true
    | some .string => ∃ s, ds = [.str s] ∧ s.length ≤ maxLen
    | some (.slice e) => ∃ rows, ds = [.slice rows] ∧ rows.length ≤ maxLen ∧ ∀ r ∈ rows, WT P n e r
    | some (.struct fs) => WTS (WT P n) fs.toList ds
    | _ => False

def NoM : Nat → Prop := fun _ => False

theorem mapM_range {α : Type} {f : Nat → Option α} : ∀ (m k : Nat) {ys : List α}, (List.range' k m).mapM f = some ys → ys.length = m ∧ ∀ j, j < m → ∃ y, f (k + j) = some y ∧ ys[j]? = some y
  | 0, k, ys, h => by simp at h; subst h; simp
  | m + 1, k, ys, h => by
    rw [List.range'_succ, List.mapM_cons] at h
    cases hf : f k with
    | none => simp [hf] at h
    | some y =>
      cases hr : (List.range' (k + 1) m).mapM f with
      | none => simp [hf, hr] at h
      | some zs =>
        simp [hf, hr] at h
        subst h
        obtain ⟨h1, h2⟩ := mapM_range m (k + 1) hr
        refine ⟨by simp [h1], fun j hj => ?_⟩
        cases j with
        | zero => exact ⟨y, by simpa using hf, by simp⟩
        | succ j =>
          obtain ⟨z, hz1, hz2⟩ := h2 j (by omega)
          exact ⟨z, by rw [show k + (j + 1) = k + 1 + j by omega]; exact hz1, by simpa using hz2⟩

theorem mapM_range0 {α : Type} {f : Nat → Option α} {m : Nat} {ys : List α} (h : (List.range m).mapM f = some ys) : ys.length = m ∧ ∀ j, j < m → ∃ y, f j = some y ∧ ys[j]? = some y := by
  rw [List.range_eq_range'] at h
  simpa using mapM_range m 0 h

theorem cells_get {w : World} {a : Addr} {n : Nat} {vs : List Value} (h : w.cells? 0 a n = some vs) : vs.length = n ∧ ∀ j v, vs[j]? = some v → w.cell? (a.add j) = some v := by
  simp only [World.cells?, Nat.zero_le, if_true] at h
  obtain ⟨h1, h2⟩ := mapM_range0 h
  refine ⟨h1, fun j v hj => ?_⟩
  have hlt := (List.getElem?_eq_some_iff.1 hj).1
  obtain ⟨y, hy1, hy2⟩ := h2 j (by omega)
  rw [hj] at hy2; simp at hy2; subst hy2; exact hy1

section
variable {H : Type} {enc : TypeId × Value → H} {P : Program} {w : World} {sp : Nat → Bool} {held : Bool}

/-- What a reading gives. -/
def Reads (P : Program) (w : World) (n : Nat) (t : TypeId) (cs : List Value) (bulk : Nat) : Prop :=
  ∃ ds, RepL w NoM ds cs ∧ (∀ x ∈ cs, x.oneCell' = true) ∧ WT P n t ds ∧ dvBL ds ≤ bulk

theorem tiles_le : ∀ (fs : List Field) (o n : Nat), tiles P o fs n = true → o ≤ n
  | [], o, n, h => by simp [tiles] at h; omega
  | f :: fs, o, n, h => by
    simp only [tiles, Bool.and_eq_true] at h
    have := tiles_le fs _ _ h.2
    omega

theorem okWide_agg {W : World} {base : Nat} {t : TypeId} {fs : Array Field} {v : Value} (ht : P.underlying t = some (.struct fs)) (h : Value.okWide P W .any base t v) : ∃ vs, v = .agg vs := by
  unfold Value.okWide at h
  simp only [ht] at h
  obtain ⟨cs, h, _⟩ := h
  exact ⟨cs, h⟩

theorem arg_agg {M : Nat → Prop} {v : Value} {vs : Array Value} {ds : List DV} (hv : v = .agg vs) (h : RepL w M ds v.cells.toList) (h1 : ∀ x ∈ v.cells.toList, x.oneCell' = true) : Rep w M (.agg ds) v := by
  subst hv
  unfold Rep
  exact ⟨vs.toList, by simp, h1, h⟩

theorem arg_one {M : Nat → Prop} {v : Value} {c : DV} (hv : ∀ vs, v ≠ .agg vs) (h : RepL w M [c] v.cells.toList) : Rep w M c v := by
  have : v.cells = #[v] := by
    cases v with
    | agg vs => exact absurd rfl (hv vs)
    | _ => rfl
  rw [this] at h
  simp only [RepL] at h
  obtain ⟨u, us, he, hr, _⟩ := h
  simp at he
  rw [he.1]; exact hr
end
end Go.Proofs.YtdkncdkdbddgoaaDoor
