/-
  My text.
-/
import Derived.Test.YteaolfcegaidpaaGreatDoorSYEngZ
namespace Go.Proofs.YteaolfcegaidpaaGreatDoor
set_option linter.unusedSimpArgs false
set_option linter.unusedVariables false
open Go.RowKit
section
variable {P:Program} {x0:SC} {Q:AX->St->Prop} {s:Nat->SV} {h:Nat->Ch} {K:St->Prop} {sos:List SO} {α β:Type} {row:α->List DV} {row':β->List DV} {ms ms':List cB} {l p q:List α} {x:α} {pre post:List (List SV)} {cells:List SV}
end
section
variable {α:Type} {ms ms0:List cB} {row:α->List DV} {l:List α} {x:α} {i:Nat}
end
section
variable {P:Program} {s:Nat->SV} {h:Nat->Ch} {K:St->Prop} {sos:List SO} {α:Type} {row:α->List DV} {ms:List cB} {p l:List α} {cells:List SV} {post:List (List SV)}
end
section
variable {P:Program} {s:Nat->SV} {h:Nat->Ch} {K:St->Prop} {sos:List SO} {α:Type} {row:α->List DV} {l:List α}
end
