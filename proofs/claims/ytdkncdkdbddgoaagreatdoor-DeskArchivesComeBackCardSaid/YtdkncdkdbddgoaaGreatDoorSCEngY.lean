/-
  The engine, part Y: variables of which some parts are owned slices, handed to functions by pointer.
-/
import Derived.Test.YtdkncdkdbddgoaaGreatDoorSCEngX
namespace Go.Proofs.YtdkncdkdbddgoaaGreatDoor
set_option linter.unusedSimpArgs false
set_option linter.unusedVariables false
open Go.RowKit

theorem ownR_cons (m : Mask) (ms : List Mask) (d : DV) (ds : List DV) : ownR (m :: ms) (d :: ds) = ownC m d :: ownR ms ds := rfl
theorem ownR_nil : ownR [] [] = [] := rfl
theorem hand_data {h : Nat → Ch} : ∀ {xs : List SV} {ds : List DV}, SV.toDVs xs = some ds → HandL h xs (ds.map .d) (ds.map .d) []
  | [], ds, hd => by simp only [SV.toDVs, Option.some.injEq] at hd; subst hd; exact .nil
  | x :: xs, ds, hd => by
    unfold SV.toDVs at hd
    split at hd
    · rename_i d ds' h1 h2
      simp only [Option.some.injEq] at hd; subst hd
      exact .data h1 (hand_data h2)
    · cases hd

section
variable {P : Program} {x : SC} {Q : AX → St → Prop} {σ : St} {s : Nat → SV} {h : Nat → Ch} {K : St → Prop} {sos : List SO} {α : Type} {row : α → List DV}

end
section
variable {P : Program} {x : SC} {Q : AX → St → Prop} {s : Nat → SV} {h : Nat → Ch} {K : St → Prop} {sos : List SO} {α : Type} {row : α → List DV}
/-- A pointer that may be nil. -/
def optP (row : α → List DV) : Option α → DV
  | none => .raw (.pointer none)
  | some a => .ptr (row a)
theorem f_optN : DV.raw (.pointer none) = optP row none := rfl
theorem f_optS {cs : List DV} {a : α} (h : cs = row a) : DV.ptr cs = optP row (some a) := by rw [h]; rfl
end
/-- The beginning of such a function. -/
def ini0 (N : Nat) (as : List DV) : Nat → SV := fun j => if j = 0 then .ref 0 0 else if j < N then (match as[j - 1]? with | some d => .d d | none => .d .any) else if j = N then .ref 0 0 else match as[j - N - 1]? with | some d => .d d | none => .d .any
attribute [push_cast] ownR_cons ownR_nil ini0 ghosts svL RV.sv
end Go.Proofs.YtdkncdkdbddgoaaGreatDoor
