/-
  The engine, part Y: variables of which some parts are owned slices, handed to functions by pointer.
-/
import Derived.Test.YthcfbglbjipdaaaDoorSHEngX
namespace Go.Proofs.YthcfbglbjipdaaaDoor
set_option linter.unusedSimpArgs false
set_option linter.unusedVariables false
open Go.RowKit

theorem ownR_cons (m : Mask) (ms : List Mask) (d : DV) (ds : List DV) : ownR (m :: ms) (d :: ds) = ownC m d :: ownR ms ds := rfl
theorem ownR_nil : ownR [] [] = [] := rfl
theorem hand_data {h : Nat → Ch} : ∀ {xs : List SV} {ds : List DV}, SV.toDVs xs = some ds → HandL h xs (ds.map .d) (ds.map .d) []
  | [], ds, hd => by simp only [SV.toDVs, Option.some.injEq] at hd; subst hd; exact .nil
  | x :: xs, ds, hd => by
    unfold SV.toDVs at hd
    split at hd
    · rename_i d ds' h1 h2
      simp only [Option.some.injEq] at hd; subst hd
      exact .data h1 (hand_data h2)
    · cases hd

section
variable {P : Program} {x : SC} {Q : AX → St → Prop} {σ : St} {s : Nat → SV} {h : Nat → Ch} {K : St → Prop} {sos : List SO} {α : Type} {row : α → List DV}

end
section
variable {P : Program} {x : SC} {Q : AX → St → Prop} {s : Nat → SV} {h : Nat → Ch} {K : St → Prop} {sos : List SO} {α : Type} {row : α → List DV}
/-- In a region whose order is drawn: a growing slice, whose rows are told. -/
theorem O_appVX {R : Type} {r : R} {l l2 : List α} {rows rows2 : List (List SV)} {dst e sz id : Nat} {x y : SX} {late : List (Nat × Nat × ROp)} {kk : Option R} (hm : thenO (lenO (l.length + l2.length)) kk = some r) (hx : ev s x = .vec id) (hh : h id = .vec e sz rows) (hl1 : rows = vrow row l) (hy : rowsY (ev s y) = some rows2) (hl2 : rows2 = vrow row l2) (hsz : ∀ a, (row a).length = sz)
    (hl : Rer ⟨upd (repS id .any s) dst (.vec id), upd (repH id .any h) id (.vec e sz (vrow row (l ++ l2)))⟩ late)
    (hk : kk = some r → AOps P K sos ⟨upd (repS id .any s) dst (.vec id), upd (repH id .any h) id (.vec e sz (vrow row (l ++ l2)))⟩) : AOps P K (.x dst (.app e sz x y) late :: sos) ⟨s, h⟩ := by
  subst hl1 hl2
  cases hlo : lenO (l.length + l2.length) with
  | none => rw [hlo] at hm; cases hm
  | some u =>
    rw [hlo] at hm
    have hlen := lenO_some.1 hlo
    refine O_x (p := e = e ∧ sz = sz ∧ (∀ r ∈ vrow row l2, r.length = sz) ∧ (vrow row l).length + (vrow row l2).length ≤ 137438953472) ?_ ⟨rfl, rfl, vrow_all hsz l2, by simp only [vrow_length]; exact hlen⟩ hl (hk hm)
    simp only [wr, hx, hy, hh, growTo, St.swap, vrow_append, repR_vrow]
end
/-- The beginning of such a function. -/
def ini0 (N : Nat) (as : List DV) : Nat → SV := fun j => if j = 0 then .ref 0 0 else if j < N then (match as[j - 1]? with | some d => .d d | none => .d .any) else if j = N then .ref 0 0 else match as[j - N - 1]? with | some d => .d d | none => .d .any
attribute [push_cast] ownR_cons ownR_nil ini0 ghosts svL RV.sv
end Go.Proofs.YthcfbglbjipdaaaDoor
