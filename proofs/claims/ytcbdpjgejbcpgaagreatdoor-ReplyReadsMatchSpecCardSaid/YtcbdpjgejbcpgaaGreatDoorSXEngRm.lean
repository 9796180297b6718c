/-
  The engine, part Rm: rows of strings within rows that own.
-/
import Derived.Test.YtcbdpjgejbcpgaaGreatDoorSXEngRl
namespace Go.Proofs.YtcbdpjgejbcpgaaGreatDoor
set_option linter.unusedSimpArgs false
set_option linter.unusedVariables false
open Go.RowKit

theorem c_ownS {x : SV} {t : List UInt8} (h : svle x (.d (.str t))) : cellsle [x] (ownR [.sh] (rowS t)) := cellsle.consS h cellsle.nil
/-- A whole row that is open is read. -/
theorem O_ldFA {P : Program} {K : St → Prop} {sos : List SO} {s : Nat → SV} {h : Nat → Ch} {id e sz i off n dst : Nat} {R : List (List SV)} {cells cs : List SV} {y : SX} (hp : ev s y = .vref id sz i off) (hh : h id = .vec e sz (R.set i cells)) (hi : i < R.length) (hc : (cells.drop off).take n = cs) (hno : SV.noOwns cs = true) (hl : off + n ≤ cells.length)
    (hk : AOps P K sos ⟨upd s dst (.agg cs), h⟩) : AOps P K (.r dst (.ldA n y) :: sos) ⟨s, h⟩ := by
  have hg : (R.set i cells)[i]? = some cells := List.getElem?_set_self hi
  refine O_r (p := sz = sz ∧ off + n ≤ cells.length) (v := .agg cs) ?_ ⟨rfl, hl⟩ hk
  simp only [rd, hp, hh, hg, hc, hno, if_true]
/-- A whole row that is open is written. -/
theorem O_stFwE {P : Program} {K : St → Prop} {sos : List SO} {s : Nat → SV} {h : Nat → Ch} {id e sz i off : Nat} {R : List (List SV)} {cells cells' : List SV} {v0 : SV} {y v : SX} (hp : ev s y = .vref id sz i off) (hv : (ev s v).cells? = some [v0]) (hh : h id = .vec e sz (R.set i cells)) (hi : i < R.length) (ho : off < cells.length) (hs : cells.set off v0 = cells')
    (hk : AOps P K sos ⟨s, upd h id (.vec e sz (R.set i cells'))⟩) : AOps P K (.w 0 (.st 1 y v) :: sos) ⟨s, h⟩ := by
  subst hs
  exact O_stFw hp hv hh hi ho hk
end Go.Proofs.YtcbdpjgejbcpgaaGreatDoor
