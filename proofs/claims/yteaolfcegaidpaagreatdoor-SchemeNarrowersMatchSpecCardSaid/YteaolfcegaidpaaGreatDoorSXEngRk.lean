/-
  My text.
-/
import Derived.Test.YteaolfcegaidpaaGreatDoorSXEngRj
namespace Go.Proofs.YteaolfcegaidpaaGreatDoor
set_option linter.unusedSimpArgs false
set_option linter.unusedVariables false
open Go.RowKit
section
variable {P:Program} {c:Cx} {σ:St} {κ:Nat->Value} {φ:Nat->List Nat} {a:Act} {w:World}
theorem ce.freezeB (hr:ce c σ κ φ a w) {id slot:Nat} {cs:List SV} {ds:List DV} (hs:σ.s slot= .ref id 0) (hv:σ.h id= .box cs) (hf:SV.frzs cs=some ds):
  ce c {σ.swap id .any .dead with s:=ay (eF id .any σ.s) slot (.d (.ptr ds))} (ay κ id (.pointer none)) (ay φ id []) a w:=by
 have h1:ce c (σ.swap id .any .dead) (ay κ id (.pointer none)) (ay φ id []) a w:=
  hr.swap rfl rfl rfl rfl (Me _) (fun _ _ _=>rfl) oS oS (by unfold aK;trivial) rfl
 have hch:=hr.chunks id
 rw[hv] at hch
 obtain⟨b,T,vs,G,hk,hb,hone,hrep,hF⟩:=hch
 have hM:∀ b,own c (ay φ id []) b->own c φ b:=fun b hb=>by
  rcases hb with h|⟨j,h⟩
  ·exact .inl h
  ·by_cases hji:j=id
   ·subst hji;rw[al] at h;simp at h
   ·rw[aS _ _ _ _ hji] at h;exact .inr ⟨j,h⟩
 have hFn:∀ b∈φ id,¬ own c (ay φ id []) b:=fun b hb=>by
  rintro(h|⟨j,h⟩)
  ·have h1:=hr.m0 b h
   have h2:=(hr.mine id b hb).2
   rcases h2 with h2|h2
   ·omega
   ·exact h1.2 h2
  ·by_cases hji:j=id
   ·subst hji;rw[al] at h;simp at h
   ·rw[aS _ _ _ _ hji] at h;exact hr.sep j id b hji h hb
 have hL:aB w (own c (ay φ id [])) ds vs:=zA hM (fun b hb=>hFn b (by rw[hF];simp[hb])) hrep hf
 have hp:aK w (own c (ay φ id [])) (.ptr ds) (κ id):=by
  unfold aK
  refine⟨b,0,hk,hFn b (by rw[hF];simp),(hr.mine id b (by rw[hF];simp)).1, ?_⟩
  refine bq.of_cells hL hone fun j v hj=> ?_
  unfold World.cell?
  simp only[hb,M7]
  simpa using hj
 have key:∀ i v,af w (own c φ) κ (σ.s i) v->af w (own c (ay φ id [])) (ay κ id (.pointer none)) ((σ.swap id .any .dead).s i) v->af w (own c (ay φ id [])) (ay κ id (.pointer none)) (ay (eF id .any σ.s) slot (.d (.ptr ds)) i) v:=fun i v h0 hv=>by
  by_cases hi':i=slot
  ·subst hi'
   rw[hs] at h0
   simp only[af] at h0
   obtain⟨b',hk',rfl⟩:=h0
   rw[hk] at hk'
   cases hk'
   simp only[al,af]
   rw[<-hk]
   exact hp
  ·simp only[aS _ _ _ _ hi']
   exact hv
 exact⟨h1.chg,h1.size,h1.m0,h1.ntmps,h1.defers,h1.kok,fun i hi=>key i _ (hr.slots i hi) (h1.slots i hi),fun i v hv=>key _ v (hr.ghost i v hv) (h1.ghost i v hv),h1.chunks,h1.mine,h1.nod,h1.sep⟩
end
theorem Dv {s:Nat->SV} {h:Nat->Ch} {id slot:Nat} {cs:List SV} {ds:List DV} (hs:s slot= .ref id 0) (hv:h id= .box cs) (hf:SV.frzs cs=some ds):f0 ⟨s,h⟩ ⟨ay (eF id .any s) slot (.d (.ptr ds)),ay (jz id .any h) id .dead⟩:=fun c κ φ a w hr=>⟨_,_,hr.freezeB hs hv hf⟩
theorem Km {P:Program} {x:SC} {Q:AX->St->Prop} {s:Nat->SV} {h:Nat->Ch} {id slot:Nat} {cs:List SV} {ds:List DV} (hs:s slot= .ref id 0) (hv:h id= .box cs) (hf:SV.frzs cs=some ds) (hw:AW P x Q ⟨ay (eF id .any s) slot (.d (.ptr ds)),ay (jz id .any h) id .dead⟩):AW P x Q ⟨s,h⟩:=yr (Dv hs hv hf) hw
def Fl (k:IntKind) (b:Int):Option Unit:=if 0<=b/\b<=k.bits then some () else none
theorem nZ {k:IntKind} {b:Int}:Fl k b=some ()↔0<=b/\b<=k.bits:=by unfold Fl;split<;>simp_all
section
variable {P:Program} {K:St->Prop} {sos:List SO} {s:Nat->SV} {h:Nat->Ch}
theorem HF {R:Type} {r:R} {k k':IntKind} {a b:Int} {x y:SX} {dst:Nat} {kk:Option R} (hm:lS (Fl k b) kk=some r) (hx:ev s x= .d (.int k a)) (hy:ev s y= .d (.int k' b))
  (hk:kk=some r->ba P K sos ⟨ay s dst (.d (.int k (a/2^b.toNat))),h⟩):ba P K (.r dst (.bin .shr x y)::sos) ⟨s,h⟩:=by
 cases he:Fl k b with
 |none=>rw[he] at hm;cases hm
 |some u=>
  rw[he] at hm
  exact iE (p:=0<=b/\b<=k.bits) (v:= .d (.int k (a/2^b.toNat))) (by by_cases hkk:k=k'<;>simp[rd,hx,hy,yK,wo,hkk]) (nZ.1 he) (hk hm)
theorem Lb {R:Type} {r:R} {k k':IntKind} {a b:Int} {x y:SX} {dst:Nat} {kk:Option R} (hm:lS (Fl k b) kk=some r) (hx:ev s x= .d (.int k a)) (hy:ev s y= .d (.int k' b))
  (hk:kk=some r->ba P K sos ⟨ay s dst (.d (.int k (k.wrap (a * 2^b.toNat)))),h⟩):ba P K (.r dst (.bin .shl x y)::sos) ⟨s,h⟩:=by
 cases he:Fl k b with
 |none=>rw[he] at hm;cases hm
 |some u=>
  rw[he] at hm
  exact iE (p:=0<=b/\b<=k.bits) (v:= .d (.int k (k.wrap (a * 2^b.toNat)))) (by by_cases hkk:k=k'<;>simp[rd,hx,hy,yK,wo,hkk]) (nZ.1 he) (hk hm)
theorem wH {R:Type} {r:R} {Q:AX->St->Prop} {σ:St} (hm:(none:Option R)=some r):AW P .any Q σ:=by cases hm
end
