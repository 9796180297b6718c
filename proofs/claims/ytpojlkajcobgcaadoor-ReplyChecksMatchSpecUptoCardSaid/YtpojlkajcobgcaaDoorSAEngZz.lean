/-
  The engine, part Zz: slices that are frozen ahead of a statement, found by a slot that holds them.
-/
import Derived.Test.YtpojlkajcobgcaaDoorSAEngWk
namespace Go.Proofs.YtpojlkajcobgcaaDoor
set_option linter.unusedSimpArgs false
set_option linter.unusedVariables false
open Go.RowKit

theorem W_frzS {P : Program} {x : SC} {Q : AX → St → Prop} (slot : Nat) {s : Nat → SV} {h : Nat → Ch} {id e sz : Nat} {rows : List (List SV)} {ds : List (List DV)} (h0 : s slot = .vec id) (hv : h id = .vec e sz rows) (hf : SV.frzR rows = some ds) (hw : AW P x Q ⟨repS id (.slice ds) s, upd (repH id (.slice ds) h) id .dead⟩) : AW P x Q ⟨s, h⟩ := W_frz hv hf hw
theorem W_same {P : Program} (x : SC) {Q : AX → St → Prop} {σ : St} (hw : AW P x Q σ) : AW P x Q σ := hw
/-- An append to an owned slice whose rows are told one by one, where the order is the text's. -/
theorem O_appW2 {P : Program} {s : Nat → SV} {h : Nat → Ch} {K : St → Prop} {sos : List SO} {R : Type} {r : R} {rows rows2 : List (List SV)} {n dst e sz id : Nat} {x y : SX} {kk : Option R} (hm : thenO (lenO n) kk = some r) (hx : ev s x = .vec id) (hh : h id = .vec e sz rows) (hy : rowsY (ev s y) = some rows2) (hn : rows.length + rows2.length = n) (hsz : (rows2.all fun q => q.length == sz) = true)
    (hk : kk = some r → AOps P K sos ⟨upd (repS id .any s) dst (.vec id), upd (repH id .any h) id (.vec e sz (repR id .any (rows ++ rows2)))⟩) : AOps P K (.w dst (.app e sz x y) :: sos) ⟨s, h⟩ := by
  cases hlo : lenO n with
  | none => rw [hlo] at hm; cases hm
  | some u =>
    rw [hlo] at hm
    have hlen := lenO_some.1 hlo
    refine O_w (p := e = e ∧ sz = sz ∧ (∀ r ∈ rows2, r.length = sz) ∧ rows.length + rows2.length ≤ 137438953472) ?_ ⟨rfl, rfl, fun q hq => by have := List.all_eq_true.1 hsz q hq; simpa using this, by omega⟩ (hk hm)
    simp only [wr, hx, hy, hh, growTo, St.swap]
end Go.Proofs.YtpojlkajcobgcaaDoor
