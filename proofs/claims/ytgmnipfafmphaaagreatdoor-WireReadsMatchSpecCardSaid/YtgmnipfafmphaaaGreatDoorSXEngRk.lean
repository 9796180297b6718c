/-
  My text.
-/
import Derived.Test.YtgmnipfafmphaaaGreatDoorSXEngRj
namespace Go.Proofs.YtgmnipfafmphaaaGreatDoor
set_option linter.unusedSimpArgs false
set_option linter.unusedVariables false
open Go.RowKit
variable {J:List DV} {b:Int} {cs:List SV} {d:Nat} {h:Nat->Ch} {id:Nat} {k:IntKind} {s:Nat->SV}
section
variable {P:Program} {c:Cx} {σ:St} {κ:Nat->Value} {φ:Nat->List Nat} {a:Act} {w:World}
theorem dp.freezeB (D:dp c σ κ φ a w) (hs:σ.s d= .ref id 0) (hv:σ.h id= .box cs) (C:SV.frzs cs=some J):
  dp c {σ.swap id .any .dead with s:=ap (bG id .any σ.s) d (.d (.ptr J))} (ap κ id (.pointer none)) (ap φ id []) a w:=by
 have h1:dp c (σ.swap id .any .dead) (ap κ id (.pointer none)) (ap φ id []) a w:=
  D.swap rfl rfl rfl rfl (Vs _) (fun _ _ _=>rfl) oS oS (by unfold bf;trivial) rfl
 have H:=D.chunks id
 rw[hv] at H
 obtain⟨b,T,vs,G,hk,hb,r1,V,B⟩:=H
 have hM:∀ b,own c (ap φ id []) b->own c φ b:=fun b hb=>by
  rcases hb with h|⟨j,h⟩
  ·exact .inl h
  ·by_cases f:j=id
   ·subst f;rw[aC] at h;simp at h
   ·rw[bh _ _ _ _ f] at h;exact .inr ⟨j,h⟩
 have Q:∀ b∈φ id,¬ own c (ap φ id []) b:=fun b hb=>by
  rintro(h|⟨j,h⟩)
  ·have h1:=D.m0 b h
   have h2:=(D.mine id b hb).2
   rcases h2 with h2|h2
   ·omega
   ·exact h1.2 h2
  ·by_cases f:j=id
   ·subst f;rw[aC] at h;simp at h
   ·rw[bh _ _ _ _ f] at h;exact D.sep j id b f h hb
 have u:aM w (own c (ap φ id [])) J vs:=C0 hM (fun b hb=>Q b (by rw[B];simp[hb])) V C
 have Y:bf w (own c (ap φ id [])) (.ptr J) (κ id):=by
  unfold bf
  refine⟨b,0,hk,Q b (by rw[B];simp),(D.mine id b (by rw[B];simp)).1, ?_⟩
  refine b4.of_cells u r1 fun j v hj=> ?_
  unfold World.cell?
  simp only[hb,VD]
  simpa using hj
 have key:∀ i v,al w (own c φ) κ (σ.s i) v->al w (own c (ap φ id [])) (ap κ id (.pointer none)) ((σ.swap id .any .dead).s i) v->al w (own c (ap φ id [])) (ap κ id (.pointer none)) (ap (bG id .any σ.s) d (.d (.ptr J)) i) v:=fun i v h0 hv=>by
  by_cases h5:i=d
  ·subst h5
   rw[hs] at h0
   simp only[al] at h0
   obtain⟨b',r5,rfl⟩:=h0
   rw[hk] at r5
   cases r5
   simp only[aC,al]
   rw[<-hk]
   exact Y
  ·simp only[bh _ _ _ _ h5]
   exact hv
 exact⟨h1.chg,h1.size,h1.m0,h1.ntmps,h1.defers,h1.kok,fun i hi=>key i _ (D.slots i hi) (h1.slots i hi),fun i v hv=>key _ v (D.ghost i v hv) (h1.ghost i v hv),h1.chunks,h1.mine,h1.nod,h1.sep⟩
end
theorem H6 (hs:s d= .ref id 0) (hv:h id= .box cs) (C:SV.frzs cs=some J):bt ⟨s,h⟩ ⟨ap (bG id .any s) d (.d (.ptr J)),ap (bK id .any h) id .dead⟩:=fun c κ φ a w D=>⟨_,_,D.freezeB hs hv C⟩
theorem RU {P:Program} {x:SC} {Q:AX->St->Prop} (hs:s d= .ref id 0) (hv:h id= .box cs) (C:SV.frzs cs=some J) (G:AW P x Q ⟨ap (bG id .any s) d (.d (.ptr J)),ap (bK id .any h) id .dead⟩):AW P x Q ⟨s,h⟩:=p2 (H6 hs hv C) G
def S7 (k:IntKind) (b:Int):Option Unit:=if 0<=b/\b<=k.bits then some () else none
theorem NA:S7 k b=some ()↔0<=b/\b<=k.bits:=by unfold S7;split<;>simp_all
section
variable {P:Program} {K:St->Prop} {sos:List SO} {s:Nat->SV} {h:Nat->Ch}
theorem Tq {R:Type} {r:R} {k':IntKind} {a:Int} {x y:SX} {dst:Nat} {kk:Option R} (Z:ew (S7 k b) kk=some r) (hx:ev s x= .d (.int k a)) (hy:ev s y= .d (.int k' b)) (hk:kk=some r->aI P K sos ⟨ap s dst (.d (.int k (a/2^b.toNat))),h⟩):aI P K (.r dst (.bin .shr x y)::sos) ⟨s,h⟩:=by
 cases he:S7 k b with
 |none=>rw[he] at Z;cases Z
 |some u=>
  rw[he] at Z
  exact jj (p:=0<=b/\b<=k.bits) (v:= .d (.int k (a/2^b.toNat))) (by by_cases i:k=k'<;>simp[rd,hx,hy,BL,xR,i]) (NA.1 he) (hk Z)
end
