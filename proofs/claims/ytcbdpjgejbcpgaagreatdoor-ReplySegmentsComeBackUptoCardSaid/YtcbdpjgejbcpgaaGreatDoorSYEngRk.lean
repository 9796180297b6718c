/-
  The engine, part Rk: a variable that is done becomes data; shifts; slices of arrays.
-/
import Derived.Test.YtcbdpjgejbcpgaaGreatDoorSYEngRj
namespace Go.Proofs.YtcbdpjgejbcpgaaGreatDoor
set_option linter.unusedSimpArgs false
set_option linter.unusedVariables false
open Go.RowKit

section
variable {P : Program} {c : Cx} {σ : St} {κ : Nat → Value} {φ : Nat → List Nat} {a : Act} {w : World}
end
theorem frzs_vcells {α : Type} {f : α → DV} : ∀ (l : List α), SV.frzs (vcells f l) = some (l.map f)
  | [] => rfl
  | x :: l => by
    have := frzs_vcells (f := f) l
    simp only [vcells, List.map_cons, SV.frzs, SV.frz] at this ⊢
    rw [this]
/-! ### Shifts -/
attribute [push_cast] frzs_vcells
section
variable {P : Program} {K : St → Prop} {sos : List SO} {s : Nat → SV} {h : Nat → Ch}
end
end Go.Proofs.YtcbdpjgejbcpgaaGreatDoor
