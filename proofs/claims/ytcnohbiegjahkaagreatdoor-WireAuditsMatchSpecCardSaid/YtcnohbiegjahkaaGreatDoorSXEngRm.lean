/-
  The engine, part Rm: rows of strings within rows that own.
-/
import Derived.Test.YtcnohbiegjahkaaGreatDoorSXEngRl
namespace Go.Proofs.YtcnohbiegjahkaaGreatDoor
set_option linter.unusedSimpArgs false
set_option linter.unusedVariables false
open Go.RowKit

/-- A whole row that is open is read. -/
theorem O_ldFA {P : Program} {K : St → Prop} {sos : List SO} {s : Nat → SV} {h : Nat → Ch} {id e sz i off n dst : Nat} {R : List (List SV)} {cells cs : List SV} {y : SX} (hp : ev s y = .vref id sz i off) (hh : h id = .vec e sz (R.set i cells)) (hi : i < R.length) (hc : (cells.drop off).take n = cs) (hno : SV.noOwns cs = true) (hl : off + n ≤ cells.length)
    (hk : AOps P K sos ⟨upd s dst (.agg cs), h⟩) : AOps P K (.r dst (.ldA n y) :: sos) ⟨s, h⟩ := by
  have hg : (R.set i cells)[i]? = some cells := List.getElem?_set_self hi
  refine O_r (p := sz = sz ∧ off + n ≤ cells.length) (v := .agg cs) ?_ ⟨rfl, hl⟩ hk
  simp only [rd, hp, hh, hg, hc, hno, if_true]
end Go.Proofs.YtcnohbiegjahkaaGreatDoor
