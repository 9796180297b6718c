/-
  The engine, part Z: calls whose result is an owned slice.
-/
import Derived.Test.YteilhjdpbjgdpaaDoorEngY
namespace Go.Proofs.YteilhjdpbjgdpaaDoor
set_option linter.unusedSimpArgs false
set_option linter.unusedVariables false
open Go.RowKit

section
variable {P : Program} {s : Nat → SV} {h : Nat → Ch} {K : St → Prop} {sos : List SO} {α : Type} {row : α → List DV}
theorem takes_own {σ : St} {dst e n : Nat} {l : List α} (hsz : ∀ a, (row a).length = n) : takes σ [] (some dst) (.own (.sl e (List.replicate n .sh)) (.slice (l.map row))) = some ⟨upd (repS dst .any σ.s) dst (.vec dst), upd (repH dst .any σ.h) dst (.vec e n (vrow row l))⟩ := by
  simp only [takes, SV.nOwn, SV.own1, openCh, List.length_replicate, ownR_sh hsz, SV.plug, updL]
  rfl
/-- A call whose result is an owned slice. -/
theorem O_pO {Y R : Type} {r : R} {a : Option Y} {k : Y → Option R} {dst f e n : Nat} {args : List SX} {as0 as : List DV} {l : Y → List α}
    (hm : a.bind k = some r) (hx : SV.toDVs (args.map (ev s)) = some as0)
    (hs : ∀ y, a = some y → FSpec P f (as.map .d) (.own (.sl e (List.replicate n .sh)) (.slice ((l y).map row))) (as.map .d)) (he : as0 = as) (hsz : ∀ a, (row a).length = n)
    (hk : ∀ y, k y = some r → AOps P K sos ⟨upd (repS dst .any s) dst (.vec dst), upd (repH dst .any h) dst (.vec e n (vrow row (l y)))⟩) : AOps P K (.p (some dst) (.f f) args :: sos) ⟨s, h⟩ := by
  subst he
  cases hy : a with
  | none => rw [hy] at hm; cases hm
  | some y =>
    rw [hy] at hm
    exact O_p (σ1 := ⟨s, h⟩) (L := []) (Imp.refl _) (hs y hy) rfl (hand_data hx) (takes_own hsz) (hk y hm)
/-- A look at a row, which is known behind it. -/
theorem O_idxrE {R : Type} {r : R} {l : List α} {sz : Nat} {n : Int} {x i : SX} {k : IntKind} {dst : Nat} {kk : α → Option R} (hm : (getI l n).bind kk = some r) (hx : ev s x = .d (.slice (l.map row))) (hi : ev s i = .d (.int k n)) (hsz : ∀ e, (row e).length = sz)
    (hk : ∀ e, getI l n = some e → kk e = some r → AOps P K sos ⟨upd s dst (.d (.ptr (row e))), h⟩) : AOps P K (.r dst (.idx sz x i) :: sos) ⟨s, h⟩ := by
  cases he : getI l n with
  | none => rw [he] at hm; cases hm
  | some e =>
    rw [he] at hm
    obtain ⟨h1, h2⟩ := idxS_rd (h := h) hx hi hsz he
    exact O_r h1 h2 (hk e he hm)
/-- It may be looked at again. -/
theorem Rer_idx {l : List α} {sz a t : Nat} {n : Int} {x i : SX} {k : IntKind} {e : α} {late : List (Nat × Nat × ROp)} (hx : ev s x = .d (.slice (l.map row))) (hi : ev s i = .d (.int k n)) (he : getI l n = some e) (hsz : ∀ e, (row e).length = sz) (ht : s t = .d (.ptr (row e)))
    (hl : Rer ⟨s, h⟩ late) : Rer ⟨s, h⟩ ((a, t, .idx sz x i) :: late) := by
  obtain ⟨h1, h2⟩ := idxS_rd (h := h) hx hi hsz he
  simp only [Rer, h1]
  exact ⟨⟨h2, ht.symm⟩, hl⟩
end
end Go.Proofs.YteilhjdpbjgdpaaDoor
