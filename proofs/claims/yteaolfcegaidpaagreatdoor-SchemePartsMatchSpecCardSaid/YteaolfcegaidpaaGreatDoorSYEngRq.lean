/-
  My text.
-/
import Derived.Test.YteaolfcegaidpaaGreatDoorSYEngRp
import Derived.Test.YteaolfcegaidpaaGreatDoorSYPL
namespace Go.Proofs.YteaolfcegaidpaaGreatDoor
set_option linter.unusedSimpArgs false
set_option linter.unusedVariables false
open Go.RowKit
theorem H3 {K V:Type} {ke:K->DV} {f:V->DV} (id:Nat) (dv:DV) (W:List (K×V)):Ap id dv (iL ke (fun v=> .d (f v)) W)=iL ke (fun v=> .d (f v)) W:=Fu id dv (fun _=>rfl) W
attribute [push_cast] H3
section
variable {P:Program} {s:Nat->SV} {h:Nat->Ch} {K:St->Prop} {sos:List SO} {α:Type} {row:α->List DV}
theorem G9 {V:Type} {dst id:Nat} {z:SV} {m k:SX} {W:List (List UInt8×V)} {key:List UInt8} {f:V->DV} {z0:V} {ve:V->SV} (hx:ev s m= .mp id) (hk:ev s k= .d (.str key)) (hh:h id= .map .str (iL .str ve W)) (hve:ve=fun v=> .d (f v)) (hz:z= .d (f z0))
  (hrest:bh P K sos ⟨aH s dst (.d (f ((rA W key).getD z0))),h⟩):bh P K (.r dst (.look .str z false m k)::sos) ⟨s,h⟩:=by
 subst hve hz
 refine Lq hx hk hh ?_ rfl hrest
 unfold oa
 rw[zk]
 cases rA W key<;>rfl
theorem ML {C:Type} {σ:St} {f:C->St} {B:C->Prop} {M:St} (c:C) (hM:f c=M) (h:cN (dB σ M) (B c)):∃ c M,f c=M/\cN (dB σ M) (B c):=⟨c,M,hM,h⟩
theorem H4 {V:Type} {W:List (List UInt8×V)} {k:List UInt8} {v:V} {x:SV} {ve:V->SV} (hx:x=ve v):As (.map .str (no (iL .str ve W) (.str k) x)) (.map .str (iL .str ve (pH W k v))):=by
 subst hx
 rw[zl]
 exact bj rfl
end
section
variable {P:Program} {x0:SC} {Q:AX->St->Prop} {s:Nat->SV} {h:Nat->Ch} {Kk:St->Prop} {sos:List SO} {α K V:Type} {row:α->List DV} {ms:List cB} {l:List α} {x x':α} {ke:K->DV} {fv:V->DV} {kk:KK} {σ σ':St}
end
