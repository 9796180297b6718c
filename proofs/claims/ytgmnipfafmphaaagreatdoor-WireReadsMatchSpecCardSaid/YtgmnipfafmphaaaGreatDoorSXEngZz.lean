/-
  My text.
-/
import Derived.Test.YtgmnipfafmphaaaGreatDoorSXEngWk
namespace Go.Proofs.YtgmnipfafmphaaaGreatDoor
set_option linter.unusedSimpArgs false
set_option linter.unusedVariables false
open Go.RowKit
variable {P:Program} {Q:AX->St->Prop} {h:Nat->Ch} {s:Nat->SV} {x:SX} {α:Type} {H:α->List DV} {o:Option α}
theorem Sj {x:SC} (d:Nat) {id e sz:Nat} {rows:List (List SV)} {J:List (List DV)} (h0:s d= .vec id) (hv:h id= .vec e sz rows) (C:SV.frzR rows=some J) (G:AW P x Q ⟨bG id (.slice J) s,ap (bK id (.slice J) h) id .dead⟩):AW P x Q ⟨s,h⟩:=Q2 hv C G
theorem Sk (x:SC) {σ:St} (G:AW P x Q σ):AW P x Q σ:=G
theorem N7 {K:St->Prop} {sos:List SO} {R:Type} {r:R} {dst:Nat} {kk:α->Option R} (Z:o.bind kk=some r) (hx:ev s x= .d (uH H o)) (hk:∀ a,o=some a->kk a=some r->aI P K sos ⟨ap s dst (.d (.ptr (H a))),h⟩):aI P K (.r dst (.nilc x)::sos) ⟨s,h⟩:=by
 cases o with
 |none=>cases Z
 |some a=>exact jj (p:=True) (v:= .d (.ptr (H a))) (by simp only[rd,hx,uH]) trivial (hk a rfl Z)
theorem N8 {a:α} {i t:Nat} {l:List (Nat×Nat×sA)} (hx:ev s x= .d (uH H o)) (ho:o=some a) (hv:s t= .d (.ptr (H a))) (hl:su ⟨s,h⟩ l):su ⟨s,h⟩ ((i,t,.nilc x)::l):=by
 subst ho
 refine lj (p:=True) (v:= .d (.ptr (H a))) (by simp only[rd,hx,uH]) trivial hv.symm hl
