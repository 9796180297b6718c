/-
  My text.
-/
import Derived.Test.YteaolfcegaidpaaGreatDoorSXEngRp
import Derived.Test.YteaolfcegaidpaaGreatDoorSXPL
namespace Go.Proofs.YteaolfcegaidpaaGreatDoor
set_option linter.unusedSimpArgs false
set_option linter.unusedVariables false
open Go.RowKit
theorem Gm {K V:Type} {ke:K->DV} {f:V->DV} (id:Nat) (dv:DV) (W:List (K×V)):tg id dv (ex ke (fun v=> .d (f v)) W)=ex ke (fun v=> .d (f v)) W:=DO id dv (fun _=>rfl) W
attribute [push_cast] Gm
section
variable {P:Program} {s:Nat->SV} {h:Nat->Ch} {K:St->Prop} {sos:List SO} {α:Type} {row:α->List DV}
theorem Fn {V:Type} {dst id:Nat} {z:SV} {m k:SX} {W:List (List UInt8×V)} {key:List UInt8} {f:V->DV} {z0:V} {ve:V->SV} (hx:ev s m= .mp id) (hk:ev s k= .d (.str key)) (hh:h id= .map .str (ex .str ve W)) (hve:ve=fun v=> .d (f v)) (hz:z= .d (f z0))
  (hrest:ba P K sos ⟨ay s dst (.d (f ((jB W key).getD z0))),h⟩):ba P K (.r dst (.look .str z false m k)::sos) ⟨s,h⟩:=by
 subst hve hz
 refine Jb hx hk hh ?_ rfl hrest
 unfold lN
 rw[xN]
 cases jB W key<;>rfl
theorem Kp {C:Type} {σ:St} {f:C->St} {B:C->Prop} {M:St} (c:C) (hM:f c=M) (h:cA (f0 σ M) (B c)):∃ c M,f c=M/\cA (f0 σ M) (B c):=⟨c,M,hM,h⟩
theorem Gn {V:Type} {W:List (List UInt8×V)} {k:List UInt8} {v:V} {x:SV} {ve:V->SV} (hx:x=ve v):xM (.map .str (iO (ex .str ve W) (.str k) x)) (.map .str (ex .str ve (kA W k v))):=by
 subst hx
 rw[xO]
 exact cT rfl
end
section
variable {P:Program} {x0:SC} {Q:AX->St->Prop} {s:Nat->SV} {h:Nat->Ch} {Kk:St->Prop} {sos:List SO} {α K V:Type} {row:α->List DV} {ms:List b8} {l:List α} {x x':α} {ke:K->DV} {fv:V->DV} {kk:KK} {σ σ':St}
theorem I1 (x0:SC) (hi:f0 σ σ') (hk:AW P x0 Q σ'):AW P x0 Q σ:=yr hi hk
end
