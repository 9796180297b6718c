/-
  My text.
-/
import Derived.Test.YtgmnipfafmphaaaGreatDoorSYEngWk
namespace Go.Proofs.YtgmnipfafmphaaaGreatDoor
set_option linter.unusedSimpArgs false
set_option linter.unusedVariables false
open Go.RowKit
variable {P:Program} {h:Nat->Ch} {s:Nat->SV} {x:SX} {α:Type} {H:α->List DV} {o:Option α}
theorem Ql (x:SC) {Q:AX->St->Prop} {σ:St} (G:AW P x Q σ):AW P x Q σ:=G
theorem L6 {K:St->Prop} {sos:List SO} {R:Type} {r:R} {dst:Nat} {kk:α->Option R} (Z:o.bind kk=some r) (hx:ev s x= .d (rn H o)) (hk:∀ a,o=some a->kk a=some r->aD P K sos ⟨am s dst (.d (.ptr (H a))),h⟩):aD P K (.r dst (.nilc x)::sos) ⟨s,h⟩:=by
 cases o with
 |none=>cases Z
 |some a=>exact iC (p:=True) (v:= .d (.ptr (H a))) (by simp only[rd,hx,rn]) trivial (hk a rfl Z)
theorem L7 {a:α} {i t:Nat} {l:List (Nat×Nat×oX)} (hx:ev s x= .d (rn H o)) (ho:o=some a) (hv:s t= .d (.ptr (H a))) (hl:oQ ⟨s,h⟩ l):oQ ⟨s,h⟩ ((i,t,.nilc x)::l):=by
 subst ho
 refine cn (p:=True) (v:= .d (.ptr (H a))) (by simp only[rd,hx,rn]) trivial hv.symm hl
end Go.Proofs.YtgmnipfafmphaaaGreatDoor

