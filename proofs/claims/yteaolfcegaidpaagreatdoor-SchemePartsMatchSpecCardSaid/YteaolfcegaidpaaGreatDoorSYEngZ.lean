/-
  My text.
-/
import Derived.Test.YteaolfcegaidpaaGreatDoorSYEngY
namespace Go.Proofs.YteaolfcegaidpaaGreatDoor
set_option linter.unusedSimpArgs false
set_option linter.unusedVariables false
open Go.RowKit
section
variable {P:Program} {s:Nat->SV} {h:Nat->Ch} {K:St->Prop} {sos:List SO} {α:Type} {row:α->List DV}
end
section
variable {α:Type} {ms:List cB} {row:α->List DV} {l:List α}
end
section
variable {P:Program} {s:Nat->SV} {h:Nat->Ch} {K:St->Prop} {sos:List SO} {α β:Type} {row:α->List DV} {row':β->List DV} {ms ms':List cB} {l:List α} {l':List β} {x:α}
end
section
variable {P:Program} {x0:SC} {Q:AX->St->Prop} {s:Nat->SV} {h:Nat->Ch} {K:St->Prop} {sos:List SO} {α β:Type} {row:α->List DV} {row':β->List DV} {ms ms':List cB} {l:List α}
end
section
variable {P:Program} {s:Nat->SV} {h:Nat->Ch} {K:St->Prop} {sos:List SO} {α β:Type} {row:α->List DV} {ms:List cB} {l l2:List α} {x:α}
end
theorem Hh {h:Nat->Ch} {ys rs:List SV} {ids:List Nat} (hr:tp h ys rs ids):∀ {gs:List SV} {as:List DV},SV.toDVs gs=some as->tp h (gs++ys) (as.map .d++rs) ids
 |[],as,hd=>by simp only[SV.toDVs,Oy] at hd;subst hd;exact hr
 |g::gs,as,hd=>by
  unfold SV.toDVs at hd
  split at hd
  ·rename_i d ds' h1 h2
   simp only[Oy] at hd;subst hd
   exact .data h1 (Hh hr h2)
  ·cases hd
section
variable {P:Program} {Q:AX->St->Prop} {x0:SC} {s:Nat->SV} {h:Nat->Ch} {α:Type} {row:α->List DV}
end
attribute [push_cast] SV.plug SV.plugs cB.plains cB.plain List.length_set List.set_set
theorem NH {P:Program} {x:SC} {Q:AX->St->Prop} {s:Nat->SV} {h:Nat->Ch} {id e sz:Nat} {rows:List (List SV)} {ds:List (List DV)} (hv:h id= .vec e sz rows) (hf:SV.frzR rows=some ds) (hw:AW P x Q ⟨gn id (.slice ds) s,aH (lv id (.slice ds) h) id .dead⟩):AW P x Q ⟨s,h⟩:=C6 (gp hv hf) hw
