/-
  The engine, part Rm: rows of strings within rows that own.
-/
import Derived.Test.YtcbdpjgejbcpgaaGreatDoorSYEngRl
namespace Go.Proofs.YtcbdpjgejbcpgaaGreatDoor
set_option linter.unusedSimpArgs false
set_option linter.unusedVariables false
open Go.RowKit

/-- A whole row that is open is written. -/
theorem O_stFwE {P : Program} {K : St → Prop} {sos : List SO} {s : Nat → SV} {h : Nat → Ch} {id e sz i off : Nat} {R : List (List SV)} {cells cells' : List SV} {v0 : SV} {y v : SX} (hp : ev s y = .vref id sz i off) (hv : (ev s v).cells? = some [v0]) (hh : h id = .vec e sz (R.set i cells)) (hi : i < R.length) (ho : off < cells.length) (hs : cells.set off v0 = cells')
    (hk : AOps P K sos ⟨s, upd h id (.vec e sz (R.set i cells'))⟩) : AOps P K (.w 0 (.st 1 y v) :: sos) ⟨s, h⟩ := by
  subst hs
  exact O_stFw hp hv hh hi ho hk
end Go.Proofs.YtcbdpjgejbcpgaaGreatDoor
