/-
  The engine, part Zz: slices that are frozen ahead of a statement, found by a slot that holds them.
-/
import Derived.Test.YtlmmfddbpagiaaaGreatDoorSAEngWk
namespace Go.Proofs.YtlmmfddbpagiaaaGreatDoor
set_option linter.unusedSimpArgs false
set_option linter.unusedVariables false
open Go.RowKit

/-- The end: the result is a slice of this function's own, which is handed over. -/
theorem K_endV {α : Type} {row : α → List DV} {r r0 : List α} {σ : St} {N k n e id t : Nat} {as : List DV} {gs : List SV} {rows : List (List SV)} {s1 : Nat → SV} {h1 : Nat → Ch} (hm : some r0 = some r) (hcl : Imp σ ⟨s1, h1⟩) (hq : s1 t = .vec id) (hh : h1 id = .vec e n rows) (hr : rowsle rows (vrow row r0)) (hsz : ∀ a, (row a).length = n)
    (hg : ghosts N ⟨s1, upd h1 id (.vec e n (vrow row r0))⟩ k = gs) (hgs : SV.toDVs gs = some as) : endF N k [.t t] (.own (.sl e (List.replicate n .sh)) (.slice (r.map row))) (as.map .d) .ret σ := by
  cases hm
  have h2 : Imp ⟨s1, h1⟩ ⟨s1, upd h1 id (.vec e n (vrow row r))⟩ := imp_le (fun _ => .inl rfl) fun j => by
    by_cases hj : j = id
    · subst hj; simp only [upd, if_true, hh]; exact chle_vec hr
    · simp only [upd, hj, if_false]; exact chle_rfl rfl
  refine ⟨_, Imp.trans hcl h2, [.vec id], [.own (.sl e (List.replicate n .sh)) (.slice (r.map row))], [id], ?_, rfl, rfl, ?_⟩
  · simp only [svL, RV.sv, hq]
  rw [hg]
  exact rok_all (ROk_vecS (l := r) (row := row) (by simp only [upd, if_true]) hsz List.not_mem_nil ROkL.nil) hgs
/-- A pointer that is not nil, which is known behind it. -/
theorem O_nilcOE {P : Program} {s : Nat → SV} {h : Nat → Ch} {K : St → Prop} {sos : List SO} {α R : Type} {row : α → List DV} {r : R} {o : Option α} {dst : Nat} {x : SX} {kk : α → Option R} (hm : o.bind kk = some r) (hx : ev s x = .d (optP row o)) (hk : ∀ a, o = some a → kk a = some r → AOps P K sos ⟨upd s dst (.d (.ptr (row a))), h⟩) : AOps P K (.r dst (.nilc x) :: sos) ⟨s, h⟩ := by
  cases o with
  | none => cases hm
  | some a => exact O_r (p := True) (v := .d (.ptr (row a))) (by simp only [rd, hx, optP]) trivial (hk a rfl hm)
theorem Rer_nilc {s : Nat → SV} {h : Nat → Ch} {α : Type} {row : α → List DV} {o : Option α} {a : α} {x : SX} {i t : Nat} {l : List (Nat × Nat × ROp)} (hx : ev s x = .d (optP row o)) (ho : o = some a) (hv : s t = .d (.ptr (row a))) (hl : Rer ⟨s, h⟩ l) : Rer ⟨s, h⟩ ((i, t, .nilc x) :: l) := by
  subst ho
  refine Rer_cons (p := True) (v := .d (.ptr (row a))) (by simp only [rd, hx, optP]) trivial hv.symm hl
end Go.Proofs.YtlmmfddbpagiaaaGreatDoor
