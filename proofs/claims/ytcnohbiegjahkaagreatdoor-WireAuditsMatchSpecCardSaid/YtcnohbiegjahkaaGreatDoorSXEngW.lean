/-
  The engine, part W: slices of which one row is told cell by cell.
-/
import Derived.Test.YtcnohbiegjahkaaGreatDoorSXEngZ
namespace Go.Proofs.YtcnohbiegjahkaaGreatDoor
set_option linter.unusedSimpArgs false
set_option linter.unusedVariables false
open Go.RowKit

/-- Rows, of which one is told cell by cell. -/
def zrow (pre : List (List SV)) (cells : List SV) (post : List (List SV)) : List (List SV) := pre ++ cells :: post
theorem repR_zrow (id : Nat) (dv : DV) {pre post : List (List SV)} {cells : List SV} : repR id dv (zrow pre cells post) = zrow (repR id dv pre) (repL id dv cells) (repR id dv post) := by
  unfold zrow; rw [repR_append]; simp only [repR]
section
variable {P : Program} {x0 : SC} {Q : AX → St → Prop} {s : Nat → SV} {h : Nat → Ch} {K : St → Prop} {sos : List SO} {α β : Type} {row : α → List DV} {row' : β → List DV} {ms ms' : List Mask} {l p q : List α} {x : α} {pre post : List (List SV)} {cells : List SV}

end
/-! ### Rows of which the first own more than the others -/
def mixO {α : Type} (ms ms0 : List Mask) (row : α → List DV) (l : List α) (i : Nat) : List (List SV) := vrowO ms row (l.take i) ++ vrowO ms0 row (l.drop i)
section
variable {α : Type} {ms ms0 : List Mask} {row : α → List DV} {l : List α} {x : α} {i : Nat}
theorem mixO_length : (mixO ms ms0 row l i).length = l.length := by unfold mixO; simp [vrowO_length]; omega
theorem repR_mixO (id : Nat) (dv : DV) : repR id dv (mixO ms ms0 row l i) = mixO ms ms0 row l i := by
  unfold mixO; rw [repR_append, repR_vrowO, repR_vrowO]
end
section
variable {P : Program} {s : Nat → SV} {h : Nat → Ch} {K : St → Prop} {sos : List SO} {α : Type} {row : α → List DV} {ms : List Mask} {p l : List α} {cells : List SV} {post : List (List SV)}
end
section
variable {P : Program} {s : Nat → SV} {h : Nat → Ch} {K : St → Prop} {sos : List SO} {α : Type} {row : α → List DV} {l : List α}
end
attribute [push_cast] repR_zrow repR_mixO mixO_length
end Go.Proofs.YtcnohbiegjahkaaGreatDoor
