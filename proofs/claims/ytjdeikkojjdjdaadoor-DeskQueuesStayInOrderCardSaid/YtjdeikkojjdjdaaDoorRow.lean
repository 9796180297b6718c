/-
  What the rows of this seat share: how its parameters' types read, and a world in which the listed tables lie.
-/
import Derived.Test.YtjdeikkojjdjdaaDoorCards
import Derived.Test.YtjdeikkojjdjdaaDoorTie
import Derived.Test.YtjdeikkojjdjdaaDoorEngR
import Derived.Test.YtjdeikkojjdjdaaDoorT10
namespace Go.Proofs.YtjdeikkojjdjdaaDoor
set_option linter.unusedSimpArgs false
set_option linter.unusedVariables false
open Go.ChangeShapes Go.WideShapes Go.ChangeAt Go.RowKit

theorem ownK : ownKnob Tryd.prog.godebug = none := by kernel_rfl
theorem laidOut : laidOutB Tryd.prog = true := by kernel_rfl

theorem policy_wt {n : Nat} {ds : List DV} (h : WT Tryd.prog (n + 2) 23 ds) : ∃ p, ds = encPolicy p := by
  simp only [WT, Tryd.underlying23, Tryd.underlying3, Tryd.underlying4, WTS] at h
  obtain ⟨_, _, rfl, ⟨a, rfl, _⟩, _, _, rfl, ⟨b, rfl, _⟩, _, _, rfl, ⟨c, rfl, _⟩, _, _, rfl, ⟨d, rfl, _⟩, _, _, rfl, ⟨e, rfl⟩, rfl⟩ := h
  exact ⟨⟨a, b, c, d, e⟩, rfl⟩
theorem job_wt {n : Nat} {ds : List DV} (h : WT Tryd.prog (n + 2) 42 ds) : ∃ j : Job, ds = rowJ j ∧ j.lane.length ≤ 9223372036854775807 := by
  simp only [WT, Tryd.underlying42, Tryd.underlying3, Tryd.underlying9, WTS] at h
  obtain ⟨_, _, rfl, ⟨a, rfl, ha⟩, _, _, rfl, ⟨b, rfl, _⟩, rfl⟩ := h
  exact ⟨⟨a, b⟩, rfl, ha⟩
theorem outage_wt {n : Nat} {ds : List DV} (h : WT Tryd.prog (n + 2) 44 ds) : ∃ j : Outage, ds = rowO j ∧ j.lane.length ≤ 9223372036854775807 := by
  simp only [WT, Tryd.underlying44, Tryd.underlying3, Tryd.underlying9, WTS] at h
  obtain ⟨_, _, rfl, ⟨a, rfl, ha⟩, _, _, rfl, ⟨b, rfl, _⟩, _, _, rfl, ⟨c, rfl, _⟩, rfl⟩ := h
  exact ⟨⟨a, b, c⟩, rfl, ha⟩
theorem rows_wt {α : Type} {row : α → List DV} {good : α → Prop} {P : List DV → Prop} (h1 : ∀ ds, P ds → ∃ a, ds = row a ∧ good a) : ∀ {rows : List (List DV)}, (∀ r ∈ rows, P r) → ∃ l : List α, rows = l.map row ∧ ∀ a ∈ l, good a
  | [], _ => ⟨[], rfl, by simp⟩
  | r :: rows, h => by
    obtain ⟨a, rfl, ha⟩ := h1 r (h r (by simp))
    obtain ⟨l, rfl, hl⟩ := rows_wt (rows := rows) h1 (fun r hr => h r (by simp [hr]))
    exact ⟨a :: l, rfl, by simpa using ⟨ha, hl⟩⟩
theorem jobs_wt {n : Nat} {ds : List DV} (h : WT Tryd.prog (n + 3) 24 ds) : ∃ l : List Job, ds = [.slice (l.map rowJ)] ∧ ∀ j ∈ l, j.lane.length ≤ 9223372036854775807 := by
  simp only [WT, Tryd.underlying24] at h
  obtain ⟨rows, rfl, _, hr⟩ := h
  obtain ⟨l, rfl, hl⟩ := rows_wt (row := rowJ) (fun ds h => job_wt (n := n) h) hr
  exact ⟨l, rfl, hl⟩
theorem outages_wt {n : Nat} {ds : List DV} (h : WT Tryd.prog (n + 3) 25 ds) : ∃ l : List Outage, ds = [.slice (l.map rowO)] ∧ ∀ j ∈ l, j.lane.length ≤ 9223372036854775807 := by
  simp only [WT, Tryd.underlying25] at h
  obtain ⟨rows, rfl, _, hr⟩ := h
  obtain ⟨l, rfl, hl⟩ := rows_wt (row := rowO) (fun ds h => outage_wt (n := n) h) hr
  exact ⟨l, rfl, hl⟩
theorem int_wt {n : Nat} {ds : List DV} (h : WT Tryd.prog (n + 1) 3 ds) : ∃ m : Int, ds = [.int .i64 m] ∧ -9223372036854775808 ≤ m ∧ m ≤ 9223372036854775807 := by
  simp only [WT, Tryd.underlying3] at h
  obtain ⟨m, rfl, hw⟩ := h
  refine ⟨m, rfl, ?_⟩
  simp [Lit.wf] at hw
  have e : IntKind.i64.min = -9223372036854775808 := by decide
  omega
/-- The arguments that all of the four laws begin with. -/
theorem args3 {ts : List TypeId} {cs : List DV} (h : ArgsOk Tryd.prog 4 (23 :: 24 :: 25 :: ts) cs) :
    ∃ p jobs outs rest, cs = .agg (encPolicy p) :: .slice (jobs.map rowJ) :: .slice (outs.map rowO) :: rest ∧ InOk jobs outs ∧ ArgsOk Tryd.prog 4 ts rest := by
  obtain ⟨a, _, rfl, h1, b, _, rfl, h2, c, rest, rfl, h3, h4⟩ := h
  obtain ⟨p, rfl⟩ := policy_wt h1
  obtain ⟨jobs, rfl, hj⟩ := jobs_wt h2
  obtain ⟨outs, rfl, ho⟩ := outages_wt h3
  refine ⟨p, jobs, outs, rest, ?_, ⟨hj, ho⟩, h4⟩
  simp only [argDV, Tryd.underlying23, Tryd.underlying24, Tryd.underlying25, List.headD_cons]

def litCells : Nat → DataW Unit → List Value
  | 0, _ => []
  | _ + 1, .lit (.int k n) => [.int k n]
  | n + 1, .agg ps => ps.flatMap (litCells n)
  | _ + 1, _ => []
/-- The settled world, with the listed tables in it. -/
def layCells (l : List Value) : Obj → Obj
  | .cells _ t frozen => .cells l.toArray t frozen
  | o => o
noncomputable def laidWorld (os : Os) : World :=
  { World.holding Tryd.prog os ⟨#[], #[], []⟩ with
    heap := ((World.holding Tryd.prog os ⟨#[], #[], []⟩).heap.modify 0 (layCells (litCells 5 Rows.laid_unicode_utf8_first))).modify 1 (layCells (litCells 5 Rows.laid_unicode_utf8_acceptRanges)) }
noncomputable def noArgs : List Value := [.agg #[.int .i64 0, .int .i64 0, .int .i64 0, .int .i64 0, .bool false], .slice none 0 0, .slice none 0 0]
end Go.Proofs.YtjdeikkojjdjdaaDoor
