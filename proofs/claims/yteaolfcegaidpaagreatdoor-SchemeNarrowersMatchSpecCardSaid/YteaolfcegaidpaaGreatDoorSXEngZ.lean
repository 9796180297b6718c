/-
  My text.
-/
import Derived.Test.YteaolfcegaidpaaGreatDoorSXEngY
namespace Go.Proofs.YteaolfcegaidpaaGreatDoor
set_option linter.unusedSimpArgs false
set_option linter.unusedVariables false
open Go.RowKit
section
variable {P:Program} {s:Nat->SV} {h:Nat->Ch} {K:St->Prop} {sos:List SO} {α:Type} {row:α->List DV}
end
section
variable {α:Type} {ms:List b8} {row:α->List DV} {l:List α}
end
section
variable {P:Program} {s:Nat->SV} {h:Nat->Ch} {K:St->Prop} {sos:List SO} {α β:Type} {row:α->List DV} {row':β->List DV} {ms ms':List b8} {l:List α} {l':List β} {x:α}
end
section
variable {P:Program} {x0:SC} {Q:AX->St->Prop} {s:Nat->SV} {h:Nat->Ch} {K:St->Prop} {sos:List SO} {α β:Type} {row:α->List DV} {row':β->List DV} {ms ms':List b8} {l:List α}
end
section
variable {P:Program} {s:Nat->SV} {h:Nat->Ch} {K:St->Prop} {sos:List SO} {α β:Type} {row:α->List DV} {ms:List b8} {l l2:List α} {x:α}
end
theorem FA {h:Nat->Ch} {ys rs:List SV} {ids:List Nat} (hr:rP h ys rs ids):∀ {gs:List SV} {as:List DV},SV.toDVs gs=some as->rP h (gs++ys) (as.map .d++rs) ids
 |[],as,hd=>by simp only[SV.toDVs,L7] at hd;subst hd;exact hr
 |g::gs,as,hd=>by
  unfold SV.toDVs at hd
  split at hd
  ·rename_i d ds' h1 h2
   simp only[L7] at hd;subst hd
   exact .data h1 (FA hr h2)
  ·cases hd
section
variable {P:Program} {Q:AX->St->Prop} {x0:SC} {s:Nat->SV} {h:Nat->Ch} {α:Type} {row:α->List DV}
end
attribute [push_cast] SV.plug SV.plugs b8.plains b8.plain List.length_set List.set_set
theorem Ln {P:Program} {x:SC} {Q:AX->St->Prop} {s:Nat->SV} {h:Nat->Ch} {id e sz:Nat} {rows:List (List SV)} {ds:List (List DV)} (hv:h id= .vec e sz rows) (hf:SV.frzR rows=some ds) (hw:AW P x Q ⟨eF id (.slice ds) s,ay (jz id (.slice ds) h) id .dead⟩):AW P x Q ⟨s,h⟩:=yr (Ex hv hf) hw
