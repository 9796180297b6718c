/-
  My text.
-/
import Derived.Test.YteaolfcegaidpaaGreatDoorSZEngRp
import Derived.Test.YteaolfcegaidpaaGreatDoorSZPL
namespace Go.Proofs.YteaolfcegaidpaaGreatDoor
set_option linter.unusedSimpArgs false
set_option linter.unusedVariables false
open Go.RowKit
variable {V:Type} {W:List (List UInt8×V)} {f:V->DV} {q:V->SV}
theorem K8 {K:Type} {G:K->DV} (id:Nat) (o:DV) (W:List (K×V)):Ck id o (iV G (fun v=> .d (f v)) W)=iV G (fun v=> .d (f v)) W:=H_ id o (fun _=>rfl) W
attribute [push_cast] K8
section
variable {P:Program} {s:Nat->SV} {h:Nat->Ch} {K:St->Prop} {sos:List SO} {α:Type} {H:α->List DV}
theorem JZ {dst id:Nat} {z:SV} {m k:SX} {key:List UInt8} {z0:V} (hx:ev s m= .mp id) (hk:ev s k= .d (.str key)) (hh:h id= .map .str (iV .str q W)) (d:q=fun v=> .d (f v)) (hz:z= .d (f z0)) (g:a6 P K sos ⟨aD s dst (.d (f ((th W key).getD z0))),h⟩):a6 P K (.r dst (.look .str z false m k)::sos) ⟨s,h⟩:=by
 subst d hz
 refine OL hx hk hh ?_ rfl g
 unfold oU
 rw[Bj]
 cases th W key<;>rfl
theorem Qj {C:Type} {σ:St} {f:C->St} {B:C->Prop} {M:St} (c:C) (hM:f c=M) (h:cc (cS σ M) (B c)):∃ c M,f c=M/\cc (cS σ M) (B c):=⟨c,M,hM,h⟩
theorem K9 {k:List UInt8} {v:V} {x:SV} (hx:x=q v):Co (.map .str (nR (iV .str q W) (.str k) x)) (.map .str (iV .str q (qT W k v))):=by
 subst hx
 rw[Bk]
 exact be rfl
end
