/-
  The engine, part Z: calls whose result is an owned slice.
-/
import Derived.Test.YtdkncdkdbddgoaaGreatDoorSCEngY
namespace Go.Proofs.YtdkncdkdbddgoaaGreatDoor
set_option linter.unusedSimpArgs false
set_option linter.unusedVariables false
open Go.RowKit

section
variable {P : Program} {s : Nat → SV} {h : Nat → Ch} {K : St → Prop} {sos : List SO} {α : Type} {row : α → List DV}
/-- A look at a row, which is known behind it. -/
theorem O_idxrE {R : Type} {r : R} {l : List α} {sz : Nat} {n : Int} {x i : SX} {k : IntKind} {dst : Nat} {kk : α → Option R} (hm : (getI l n).bind kk = some r) (hx : ev s x = .d (.slice (l.map row))) (hi : ev s i = .d (.int k n)) (hsz : ∀ e, (row e).length = sz)
    (hk : ∀ e, getI l n = some e → kk e = some r → AOps P K sos ⟨upd s dst (.d (.ptr (row e))), h⟩) : AOps P K (.r dst (.idx sz x i) :: sos) ⟨s, h⟩ := by
  cases he : getI l n with
  | none => rw [he] at hm; cases hm
  | some e =>
    rw [he] at hm
    obtain ⟨h1, h2⟩ := idxS_rd (h := h) hx hi hsz he
    exact O_r h1 h2 (hk e he hm)
/-- It may be looked at again. -/
theorem Rer_idx {l : List α} {sz a t : Nat} {n : Int} {x i : SX} {k : IntKind} {e : α} {late : List (Nat × Nat × ROp)} (hx : ev s x = .d (.slice (l.map row))) (hi : ev s i = .d (.int k n)) (he : getI l n = some e) (hsz : ∀ e, (row e).length = sz) (ht : s t = .d (.ptr (row e)))
    (hl : Rer ⟨s, h⟩ late) : Rer ⟨s, h⟩ ((a, t, .idx sz x i) :: late) := by
  obtain ⟨h1, h2⟩ := idxS_rd (h := h) hx hi hsz he
  simp only [Rer, h1]
  exact ⟨⟨h2, ht.symm⟩, hl⟩
end
/-! ### Slices whose rows own slices -/
def vrowO {α : Type} (ms : List Mask) (row : α → List DV) (l : List α) : List (List SV) := (l.map row).map (ownR ms)
section
variable {α : Type} {ms : List Mask} {row : α → List DV} {l : List α}
theorem vrowO_length : (vrowO ms row l).length = l.length := by simp [vrowO]
theorem vrowO_append {l2 : List α} : vrowO ms row (l ++ l2) = vrowO ms row l ++ vrowO ms row l2 := by simp [vrowO]
theorem vrowO_sh {n : Nat} (hsz : ∀ a, (row a).length = n) : vrowO (List.replicate n .sh) row l = vrow row l := ownR_sh hsz l
theorem repR_vrowO (id : Nat) (dv : DV) : ∀ (l : List α), repR id dv (vrowO ms row l) = vrowO ms row l
  | [] => rfl
  | x :: l => by
    have ih := repR_vrowO id dv l
    unfold vrowO at ih ⊢
    simp only [List.map_cons, repR, repL_ownR, ih]
end
section
variable {P : Program} {s : Nat → SV} {h : Nat → Ch} {K : St → Prop} {sos : List SO} {α β : Type} {row : α → List DV} {row' : β → List DV} {ms ms' : List Mask} {l : List α} {l' : List β} {x : α}
end
section
variable {P : Program} {x0 : SC} {Q : AX → St → Prop} {s : Nat → SV} {h : Nat → Ch} {K : St → Prop} {sos : List SO} {α β : Type} {row : α → List DV} {row' : β → List DV} {ms ms' : List Mask} {l : List α}
end
section
variable {P : Program} {s : Nat → SV} {h : Nat → Ch} {K : St → Prop} {sos : List SO} {α β : Type} {row : α → List DV} {ms : List Mask} {l l2 : List α} {x : α}
theorem r_rflO : rowsle (vrowO ms row l) (vrowO ms row l) := rowsle.rfl
theorem r_shS {l : List (List UInt8)} : rowsle (vrow rowS l) (vrowO [.sh] rowS l) := rowsle.of_eq (vrowO_sh (row := rowS) (n := 1) (fun _ => rfl)).symm
theorem r_shI {l : List Int} : rowsle (vrow rowI l) (vrowO [.sh] rowI l) := rowsle.of_eq (vrowO_sh (row := rowI) (n := 1) (fun _ => rfl)).symm
theorem r_nilO : rowsle [] (vrowO ms row ([] : List α)) := rowsle.rfl
theorem r_appO {a b : List (List SV)} (h1 : rowsle a (vrowO ms row l)) (h2 : rowsle b (vrowO ms row l2)) : rowsle (a ++ b) (vrowO ms row (l ++ l2)) := by rw [vrowO_append]; exact h1.append h2
theorem r_oneO {r : List SV} (h1 : cellsle r (ownR ms (row x))) : rowsle [r] (vrowO ms row [x]) := .cons h1 .nil
theorem c_ownN {row : β → List DV} {e : Nat} {ms : List Mask} : cellsle [.nils] (ownR [.sl e ms] (rowL row ([] : List β))) := .cons (.inr ⟨rfl, _, _, rfl⟩) cellsle.nil
theorem c_ownL {row : β → List DV} {e : Nat} {ms : List Mask} {y : List β} : cellsle [.own (.sl e ms) (.slice (y.map row))] (ownR [.sl e ms] (rowL row y)) := cellsle.rfl
theorem frzR_vrowO (hp : Mask.plains ms = true) (hl : ∀ x, (row x).length = ms.length) : SV.frzR (vrowO ms row l) = some (l.map row) := frzR_ownR hp (fun r hr => by obtain ⟨x, _, rfl⟩ := List.mem_map.1 hr; exact hl x)
end
theorem frzR_vrowOP {β : Type} {row : β → List DV} {e : Nat} {ms : List Mask} {l : List (List β)} (hp : Mask.plains ms = true) : SV.frzR (vrowO [.sl e ms] (rowL row) l) = some (l.map (rowL row)) := frzR_vrowO (by simp only [Mask.plains, Mask.plain, hp, Bool.and_self]) (fun _ => rfl)
/-! ### Functions whose parameters are data and whose result owns -/
def iniD (N : Nat) (as : List DV) : Nat → SV := fun j => if j < N then (match as[j]? with | some d => .d d | none => .d .any) else match as[j - N]? with | some d => .d d | none => .d .any
/-! ### Boxes whose cell is a slice of rows that own: closed and opened -/
section
variable {P : Program} {Q : AX → St → Prop} {x0 : SC} {s : Nat → SV} {h : Nat → Ch} {α : Type} {row : α → List DV}
end
attribute [push_cast] SV.plug SV.plugs iniD Mask.plains Mask.plain frzR_vrowOP repR_set repR_vrowO vrowO_length List.length_set List.set_set
end Go.Proofs.YtdkncdkdbddgoaaGreatDoor
