/-
  The engine, part Rj: rows opened at an index that is computed within the region.
-/
import Derived.Test.YtcnohbiegjahkaaGreatDoorSXEngRi
namespace Go.Proofs.YtcnohbiegjahkaaGreatDoor
set_option linter.unusedSimpArgs false
set_option linter.unusedVariables false
open Go.RowKit
variable {P : Program} {x0 : SC} {Q : AX → St → Prop} {α β : Type} {row : α → List DV} {row' : β → List DV} {s : Nat → SV} {h : Nat → Ch} {ms ms' : List Mask} {l : List α}

/-- Ahead of a statement that works on the slice in row n - 1: this becomes a chunk. -/
theorem W_openVd {R : Type} {r : R} {id e sz off e' n' : Nat} (cid islot : Nat) {v : Int} {kk : α → Option R} {fld : α → List β} {cells : α → List SV} (hm : (getI l (IntKind.i64.wrap (v - 1))).bind kk = some r) (hi : s islot = .d (.int .i64 v)) (hh : h id = .vec e sz (vrowO ms row l)) (hms : ms[off]? = some (.sl e' ms')) (hrep : ms' = List.replicate n' .sh)
    (hd : ∀ x, (row x)[off]? = some (.slice ((fld x).map row'))) (hc : ∀ x, (ownR ms (row x)).set off (.vec cid) = cells x) (hne : id ≠ cid) (hsz : ∀ b, (row' b).length = n')
    (hk : ∀ x, getI l (IntKind.i64.wrap (v - 1)) = some x → kk x = some r → AW P x0 Q ⟨repS cid .any s, upd (upd (repH cid .any h) id (.vec e sz ((vrowO ms row l).set (IntKind.i64.wrap (v - 1)).toNat (cells x)))) cid (.vec e' n' (vrow row' (fld x)))⟩) : AW P x0 Q ⟨s, h⟩ := by
  subst hrep
  cases he : getI l (IntKind.i64.wrap (v - 1)) with
  | none => rw [he] at hm; cases hm
  | some x =>
    rw [he] at hm
    have h1 := imp_openV (s := s) (cid := cid) hh (getI_get he) hms (hd x) hne
    rw [hc x, vrowO_sh hsz, List.length_replicate] at h1
    exact W_imp h1 (hk x he hm)
end Go.Proofs.YtcnohbiegjahkaaGreatDoor
