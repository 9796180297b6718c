/-
  The engine, part Rk: a variable that is done becomes data; shifts; slices of arrays.
-/
import Derived.Test.YtcnohbiegjahkaaGreatDoorSXEngRj
namespace Go.Proofs.YtcnohbiegjahkaaGreatDoor
set_option linter.unusedSimpArgs false
set_option linter.unusedVariables false
open Go.RowKit

section
variable {P : Program} {c : Cx} {σ : St} {κ : Nat → Value} {φ : Nat → List Nat} {a : Act} {w : World}
end
theorem frzs_vcells {α : Type} {f : α → DV} : ∀ (l : List α), SV.frzs (vcells f l) = some (l.map f)
  | [] => rfl
  | x :: l => by
    have := frzs_vcells (f := f) l
    simp only [vcells, List.map_cons, SV.frzs, SV.frz] at this ⊢
    rw [this]
/-! ### Shifts -/
def shO (k : IntKind) (b : Int) : Option Unit := if 0 ≤ b ∧ b ≤ k.bits then some () else none
theorem shO_some {k : IntKind} {b : Int} : shO k b = some () ↔ 0 ≤ b ∧ b ≤ k.bits := by unfold shO; split <;> simp_all
attribute [push_cast] frzs_vcells
section
variable {P : Program} {K : St → Prop} {sos : List SO} {s : Nat → SV} {h : Nat → Ch}
theorem O_shr {R : Type} {r : R} {k k' : IntKind} {a b : Int} {x y : SX} {dst : Nat} {kk : Option R} (hm : thenO (shO k b) kk = some r) (hx : ev s x = .d (.int k a)) (hy : ev s y = .d (.int k' b))
    (hk : kk = some r → AOps P K sos ⟨upd s dst (.d (.int k (a / 2 ^ b.toNat))), h⟩) : AOps P K (.r dst (.bin .shr x y) :: sos) ⟨s, h⟩ := by
  cases he : shO k b with
  | none => rw [he] at hm; cases hm
  | some u =>
    rw [he] at hm
    exact O_r (p := 0 ≤ b ∧ b ≤ k.bits) (v := .d (.int k (a / 2 ^ b.toNat))) (by by_cases hkk : k = k' <;> simp [rd, hx, hy, binD, intOp, hkk]) (shO_some.1 he) (hk hm)
end
end Go.Proofs.YtcnohbiegjahkaaGreatDoor
