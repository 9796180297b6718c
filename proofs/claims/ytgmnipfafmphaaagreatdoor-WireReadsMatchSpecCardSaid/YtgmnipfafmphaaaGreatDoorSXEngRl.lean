/-
  My text.
-/
import Derived.Test.YtgmnipfafmphaaaGreatDoorSXEngRk
namespace Go.Proofs.YtgmnipfafmphaaaGreatDoor
set_option linter.unusedSimpArgs false
set_option linter.unusedVariables false
open Go.RowKit
variable {hi:Option Int} {i j:Option SX} {late:List (Nat×Nat×sA)} {lo:Option Int} {sz:Nat} {x:SX} {α:Type} {H:α->List DV} {l:List α}
section
variable {P:Program} {s:Nat->SV} {h:Nat->Ch} {K:St->Prop} {sos:List SO}
theorem PL {R:Type} {r:R} {dst:Nat} {kk:List α->Option R} (Z:(b5 l (lo.getD 0) (hi.getD l.length)).bind kk=some r) (hx:ev s x= .d (.slice (l.map H))) (hl:Cf s i=some lo) (hh:Cf s j=some hi) (F:∀ a,(H a).length=sz) (hk:∀ e,b5 l (lo.getD 0) (hi.getD l.length)=some e->kk e=some r->aI P K sos ⟨ap s dst (.d (.slice (e.map H))),h⟩):aI P K (.r dst (.slc sz x i j)::sos) ⟨s,h⟩:=by
 cases he:b5 l (lo.getD 0) (hi.getD l.length) with
 |none=>rw[he] at Z;cases Z
 |some e=>
  rw[he] at Z
  have hk:=hk e he Z
  unfold b5 at he
  split at he
  ·rename_i h0
   simp only[Vi] at he
   refine jj (p:=_) (v:= .d (.slice (e.map H))) (by simp only[rd,hx,hl,hh,Wj,<-he,List.map_drop,Xt];rfl) ?_ hk
   exact⟨fun q hq=>by obtain⟨z,_,rfl⟩:=VT.1 hq;exact F z,h0⟩
  ·cases he
theorem PM {e:List α} {a t:Nat} (hx:ev s x= .d (.slice (l.map H))) (hl:Cf s i=some lo) (hh:Cf s j=some hi) (F:∀ a,(H a).length=sz) (ht:s t= .d (.slice (e.map H))) (he:b5 l (lo.getD 0) (hi.getD l.length)=some e) (D:su ⟨s,h⟩ late):su ⟨s,h⟩ ((a,t,.slc sz x i j)::late):=by
 unfold b5 at he
 split at he
 ·rename_i h0
  simp only[Vi] at he
  simp only[su,QW,rd,hx,hl,hh,Wj]
  exact⟨⟨⟨fun q hq=>by obtain⟨z,_,rfl⟩:=VT.1 hq;exact F z,h0⟩,by rw[ht,<-he,List.map_drop,Xt]⟩,D⟩
 ·cases he
theorem Bs (o:Option α):SV.cells? (.d (uH H o))=some [.d (uH H o)]:=by cases o<;>rfl
attribute [push_cast] Bs
theorem RW {o:Option α} {id off:Nat} {y:SX} {cs C:List SV} (hx:ev s x= .ref id off) (hy:ev s y= .d (uH H o)) (hh:h id= .box cs) (hl:off+1<=cs.length) (r3:splice cs off [.d (uH H o)]=C) (D:su ⟨s,ap h id (.box C)⟩ late) (hk:aI P K sos ⟨s,ap h id (.box C)⟩):aI P K (.x 0 (.st 1 x y) late::sos) ⟨s,h⟩:=by
 subst r3
 exact Bj (p:=[SV.d (uH H o)].length=1/\off+1<=cs.length) (by simp only[wr,hx,hh,hy,Bs]) ⟨rfl,hl⟩ D hk
end
