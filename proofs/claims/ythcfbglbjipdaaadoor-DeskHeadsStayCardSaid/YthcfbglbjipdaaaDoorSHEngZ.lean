/-
  The engine, part Z: calls whose result is an owned slice.
-/
import Derived.Test.YthcfbglbjipdaaaDoorSHEngY
namespace Go.Proofs.YthcfbglbjipdaaaDoor
set_option linter.unusedSimpArgs false
set_option linter.unusedVariables false
open Go.RowKit

section
variable {P : Program} {s : Nat → SV} {h : Nat → Ch} {K : St → Prop} {sos : List SO} {α : Type} {row : α → List DV}
theorem takes_own {σ : St} {dst e n : Nat} {l : List α} (hsz : ∀ a, (row a).length = n) : takes σ [] (some dst) (.own (.sl e (List.replicate n .sh)) (.slice (l.map row))) = some ⟨upd (repS dst .any σ.s) dst (.vec dst), upd (repH dst .any σ.h) dst (.vec e n (vrow row l))⟩ := by
  simp only [takes, SV.nOwn, SV.own1, openCh, List.length_replicate, ownR_sh hsz, SV.plug, updL]
  rfl
/-- A call whose result is an owned slice. -/
theorem O_pO {Y R : Type} {r : R} {a : Option Y} {k : Y → Option R} {dst f e n : Nat} {args : List SX} {as0 as : List DV} {l : Y → List α}
    (hm : a.bind k = some r) (hx : SV.toDVs (args.map (ev s)) = some as0)
    (hs : ∀ y, a = some y → FSpec P f (as.map .d) (.own (.sl e (List.replicate n .sh)) (.slice ((l y).map row))) (as.map .d)) (he : as0 = as) (hsz : ∀ a, (row a).length = n)
    (hk : ∀ y, k y = some r → AOps P K sos ⟨upd (repS dst .any s) dst (.vec dst), upd (repH dst .any h) dst (.vec e n (vrow row (l y)))⟩) : AOps P K (.p (some dst) (.f f) args :: sos) ⟨s, h⟩ := by
  subst he
  cases hy : a with
  | none => rw [hy] at hm; cases hm
  | some y =>
    rw [hy] at hm
    exact O_p (σ1 := ⟨s, h⟩) (L := []) (Imp.refl _) (hs y hy) rfl (hand_data hx) (takes_own hsz) (hk y hm)
end
/-! ### Slices whose rows own slices -/
def vrowO {α : Type} (ms : List Mask) (row : α → List DV) (l : List α) : List (List SV) := (l.map row).map (ownR ms)
section
variable {α : Type} {ms : List Mask} {row : α → List DV} {l : List α}
theorem vrowO_length : (vrowO ms row l).length = l.length := by simp [vrowO]
theorem repR_vrowO (id : Nat) (dv : DV) : ∀ (l : List α), repR id dv (vrowO ms row l) = vrowO ms row l
  | [] => rfl
  | x :: l => by
    have ih := repR_vrowO id dv l
    unfold vrowO at ih ⊢
    simp only [List.map_cons, repR, repL_ownR, ih]
end
section
variable {P : Program} {s : Nat → SV} {h : Nat → Ch} {K : St → Prop} {sos : List SO} {α β : Type} {row : α → List DV} {row' : β → List DV} {ms ms' : List Mask} {l : List α} {l' : List β} {x : α}
end
section
variable {P : Program} {x0 : SC} {Q : AX → St → Prop} {s : Nat → SV} {h : Nat → Ch} {K : St → Prop} {sos : List SO} {α β : Type} {row : α → List DV} {row' : β → List DV} {ms ms' : List Mask} {l : List α}
end
section
variable {P : Program} {s : Nat → SV} {h : Nat → Ch} {K : St → Prop} {sos : List SO} {α β : Type} {row : α → List DV} {ms : List Mask} {l l2 : List α} {x : α}
theorem frzR_vrowO (hp : Mask.plains ms = true) (hl : ∀ x, (row x).length = ms.length) : SV.frzR (vrowO ms row l) = some (l.map row) := frzR_ownR hp (fun r hr => by obtain ⟨x, _, rfl⟩ := List.mem_map.1 hr; exact hl x)
end
theorem frzR_vrowOP {β : Type} {row : β → List DV} {e : Nat} {ms : List Mask} {l : List (List β)} (hp : Mask.plains ms = true) : SV.frzR (vrowO [.sl e ms] (rowL row) l) = some (l.map (rowL row)) := frzR_vrowO (by simp only [Mask.plains, Mask.plain, hp, Bool.and_self]) (fun _ => rfl)
/-! ### Functions whose parameters are data and whose result owns -/
def iniD (N : Nat) (as : List DV) : Nat → SV := fun j => if j < N then (match as[j]? with | some d => .d d | none => .d .any) else match as[j - N]? with | some d => .d d | none => .d .any
/-! ### Boxes whose cell is a slice of rows that own: closed and opened -/
section
variable {P : Program} {Q : AX → St → Prop} {x0 : SC} {s : Nat → SV} {h : Nat → Ch} {α : Type} {row : α → List DV}
end
attribute [push_cast] SV.plug SV.plugs iniD Mask.plains Mask.plain frzR_vrowOP repR_set repR_vrowO vrowO_length List.length_set List.set_set
end Go.Proofs.YthcfbglbjipdaaaDoor
