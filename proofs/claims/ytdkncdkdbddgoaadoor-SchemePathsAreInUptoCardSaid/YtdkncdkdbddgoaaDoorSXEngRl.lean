/-
  The engine, part Rl: parts of strings that are read late.
-/
import Derived.Test.YtdkncdkdbddgoaaDoorSXEngRk
namespace Go.Proofs.YtdkncdkdbddgoaaDoor
set_option linter.unusedSimpArgs false
set_option linter.unusedVariables false
open Go.RowKit
section
variable {P : Program} {s : Nat → SV} {h : Nat → Ch} {K : St → Prop} {sos : List SO}
theorem O_sslcrE {R : Type} {r : R} {l : List UInt8} {lo hi : Option Int} {x : SX} {i j : Option SX} {dst : Nat} {kk : List UInt8 → Option R} (hm : (sliceI l (lo.getD 0) (hi.getD l.length)).bind kk = some r) (hx : ev s x = .d (.str l)) (hl : evN s i = some lo) (hh : evN s j = some hi)
    (hk : ∀ e, sliceI l (lo.getD 0) (hi.getD l.length) = some e → kk e = some r → AOps P K sos ⟨upd s dst (.d (.str e)), h⟩) : AOps P K (.r dst (.sslc x i j) :: sos) ⟨s, h⟩ := by
  cases he : sliceI l (lo.getD 0) (hi.getD l.length) with
  | none => rw [he] at hm; cases hm
  | some e =>
    rw [he] at hm
    have hk := hk e he hm
    unfold sliceI at he
    split at he
    · rename_i h0
      simp only [Option.some.injEq] at he
      refine O_r (p := 0 ≤ lo.getD 0 ∧ lo.getD 0 ≤ hi.getD l.length ∧ hi.getD l.length ≤ l.length) (v := .d (.str e)) ?_ h0 hk
      simp only [rd, hx, hl, hh, ← he]
    · cases he
theorem Rer_sslc {l e : List UInt8} {a t : Nat} {lo hi : Option Int} {x : SX} {i j : Option SX} {late : List (Nat × Nat × ROp)} (hx : ev s x = .d (.str l)) (hl : evN s i = some lo) (hh : evN s j = some hi) (ht : s t = .d (.str e)) (he : sliceI l (lo.getD 0) (hi.getD l.length) = some e)
    (hr : Rer ⟨s, h⟩ late) : Rer ⟨s, h⟩ ((a, t, .sslc x i j) :: late) := by
  unfold sliceI at he
  split at he
  · rename_i h0
    simp only [Option.some.injEq] at he
    simp only [Rer, rd, hx, hl, hh]
    exact ⟨⟨h0, by rw [ht, ← he]⟩, hr⟩
  · cases he
end
end Go.Proofs.YtdkncdkdbddgoaaDoor
