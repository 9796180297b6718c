/-
  My text.
-/
import Derived.Test.YtgocgdgknpdknaaGreatDoorSXEngRp
import Derived.Test.YtgocgdgknpdknaaGreatDoorSXPL
namespace Go.Proofs.YtgocgdgknpdknaaGreatDoor
set_option linter.unusedSimpArgs false
set_option linter.unusedVariables false
open Go.RowKit
theorem D0 {K V:Type} {ke:K->DV} {f:V->DV} (id:Nat) (dv:DV) (W:List (K×V)):zF id dv (ft ke (fun v=> .d (f v)) W)=ft ke (fun v=> .d (f v)) W:=Bq id dv (fun _=>rfl) W
attribute [push_cast] D0
section
variable {P:Program} {s:Nat->SV} {h:Nat->Ch} {K:St->Prop} {sos:List SO} {α:Type} {row:α->List DV}
theorem C4 {V:Type} {dst id:Nat} {z:SV} {m k:SX} {W:List (List UInt8×V)} {key:List UInt8} {f:V->DV} {z0:V} {ve:V->SV} (hx:ev s m= .mp id) (hk:ev s k= .d (.str key)) (hh:h id= .map .str (ft .str ve W)) (hve:ve=fun v=> .d (f v)) (hz:z= .d (f z0))
  (hrest:aR P K sos ⟨aI s dst (.d (f ((n7 W key).getD z0))),h⟩):aR P K (.r dst (.look .str z false m k)::sos) ⟨s,h⟩:=by
 subst hve hz
 refine GI hx hk hh ?_ rfl hrest
 unfold k_
 rw[vi]
 cases n7 W key<;>rfl
theorem H2 {C:Type} {σ:St} {f:C->St} {B:C->Prop} {M:St} (c:C) (hM:f c=M) (h:cz (hY σ M) (B c)):∃ c M,f c=M/\cz (hY σ M) (B c):=⟨c,M,hM,h⟩
theorem D1 {V:Type} {W:List (List UInt8×V)} {k:List UInt8} {v:V} {x:SV} {ve:V->SV} (hx:x=ve v):ww (.map .str (ng (ft .str ve W) (.str k) x)) (.map .str (ft .str ve (mh W k v))):=by
 subst hx
 rw[vj]
 exact cK rfl
end
section
variable {P:Program} {x0:SC} {Q:AX->St->Prop} {s:Nat->SV} {h:Nat->Ch} {Kk:St->Prop} {sos:List SO} {α K V:Type} {row:α->List DV} {ms:List bQ} {l:List α} {x x':α} {ke:K->DV} {fv:V->DV} {kk:KK} {σ σ':St}
end
