/-
  My text.
-/
import Derived.Test.YtgmnipfafmphaaaGreatDoorSYEngRj
namespace Go.Proofs.YtgmnipfafmphaaaGreatDoor
set_option linter.unusedSimpArgs false
set_option linter.unusedVariables false
open Go.RowKit
variable {J:List DV} {b:Int} {cs:List SV} {d:Nat} {h:Nat->Ch} {id:Nat} {k:IntKind} {s:Nat->SV}
section
variable {P:Program} {c:Cx} {σ:St} {κ:Nat->Value} {φ:Nat->List Nat} {a:Act} {w:World}
theorem cW.freezeB (D:cW c σ κ φ a w) (hs:σ.s d= .ref id 0) (hv:σ.h id= .box cs) (C:SV.frzs cs=some J):
  cW c {σ.swap id .any .dead with s:=am (bl id .any σ.s) d (.d (.ptr J))} (am κ id (.pointer none)) (am φ id []) a w:=by
 have h1:cW c (σ.swap id .any .dead) (am κ id (.pointer none)) (am φ id []) a w:=
  D.swap rfl rfl rfl rfl (SZ _) (fun _ _ _=>rfl) oS oS (by unfold aW;trivial) rfl
 have r0:=D.chunks id
 rw[hv] at r0
 obtain⟨b,T,vs,G,hk,hb,h9,V,B⟩:=r0
 have hM:∀ b,own c (am φ id []) b->own c φ b:=fun b hb=>by
  rcases hb with h|⟨j,h⟩
  ·exact .inl h
  ·by_cases f:j=id
   ·subst f;rw[ar] at h;simp at h
   ·rw[aY _ _ _ _ f] at h;exact .inr ⟨j,h⟩
 have A:∀ b∈φ id,¬ own c (am φ id []) b:=fun b hb=>by
  rintro(h|⟨j,h⟩)
  ·have h1:=D.m0 b h
   have h2:=(D.mine id b hb).2
   rcases h2 with h2|h2
   ·omega
   ·exact h1.2 h2
  ·by_cases f:j=id
   ·subst f;rw[ar] at h;simp at h
   ·rw[aY _ _ _ _ f] at h;exact D.sep j id b f h hb
 have u:aC w (own c (am φ id [])) J vs:=Ag hM (fun b hb=>A b (by rw[B];simp[hb])) V C
 have Y:aW w (own c (am φ id [])) (.ptr J) (κ id):=by
  unfold aW
  refine⟨b,0,hk,A b (by rw[B];simp),(D.mine id b (by rw[B];simp)).1, ?_⟩
  refine bw.of_cells u h9 fun j v hj=> ?_
  unfold World.cell?
  simp only[hb,Tx]
  simpa using hj
 have key:∀ i v,ai w (own c φ) κ (σ.s i) v->ai w (own c (am φ id [])) (am κ id (.pointer none)) ((σ.swap id .any .dead).s i) v->ai w (own c (am φ id [])) (am κ id (.pointer none)) (am (bl id .any σ.s) d (.d (.ptr J)) i) v:=fun i v h0 hv=>by
  by_cases h5:i=d
  ·subst h5
   rw[hs] at h0
   simp only[ai] at h0
   obtain⟨b',r2,rfl⟩:=h0
   rw[hk] at r2
   cases r2
   simp only[ar,ai]
   rw[<-hk]
   exact Y
  ·simp only[aY _ _ _ _ h5]
   exact hv
 exact⟨h1.chg,h1.size,h1.m0,h1.ntmps,h1.defers,h1.kok,fun i hi=>key i _ (D.slots i hi) (h1.slots i hi),fun i v hv=>key _ v (D.ghost i v hv) (h1.ghost i v hv),h1.chunks,h1.mine,h1.nod,h1.sep⟩
end
theorem FG (hs:s d= .ref id 0) (hv:h id= .box cs) (C:SV.frzs cs=some J):bm ⟨s,h⟩ ⟨am (bl id .any s) d (.d (.ptr J)),am (bG id .any h) id .dead⟩:=fun c κ φ a w D=>⟨_,_,D.freezeB hs hv C⟩
theorem P2 {P:Program} {x:SC} {Q:AX->St->Prop} (hs:s d= .ref id 0) (hv:h id= .box cs) (C:SV.frzs cs=some J) (G:AW P x Q ⟨am (bl id .any s) d (.d (.ptr J)),am (bG id .any h) id .dead⟩):AW P x Q ⟨s,h⟩:=pO (FG hs hv C) G
def QQ (k:IntKind) (b:Int):Option Unit:=if 0<=b/\b<=k.bits then some () else none
theorem Lt:QQ k b=some ()↔0<=b/\b<=k.bits:=by unfold QQ;split<;>simp_all
section
variable {P:Program} {K:St->Prop} {sos:List SO} {s:Nat->SV} {h:Nat->Ch}
theorem Rd {R:Type} {r:R} {k':IntKind} {a:Int} {x y:SX} {dst:Nat} {kk:Option R} (Z:mh (QQ k b) kk=some r) (hx:ev s x= .d (.int k a)) (hy:ev s y= .d (.int k' b)) (hk:kk=some r->aD P K sos ⟨am s dst (.d (.int k (a/2^b.toNat))),h⟩):aD P K (.r dst (.bin .shr x y)::sos) ⟨s,h⟩:=by
 cases he:QQ k b with
 |none=>rw[he] at Z;cases Z
 |some u=>
  rw[he] at Z
  exact iC (p:=0<=b/\b<=k.bits) (v:= .d (.int k (a/2^b.toNat))) (by by_cases i:k=k'<;>simp[rd,hx,hy,yV,uz,i]) (Lt.1 he) (hk Z)
end
end Go.Proofs.YtgmnipfafmphaaaGreatDoor

