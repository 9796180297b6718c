/-
  My text.
-/
import Derived.Test.YtgmnipfafmphaaaGreatDoorSYEngRk
namespace Go.Proofs.YtgmnipfafmphaaaGreatDoor
set_option linter.unusedSimpArgs false
set_option linter.unusedVariables false
open Go.RowKit
variable {hi:Option Int} {i j:Option SX} {late:List (Nat×Nat×oX)} {lo:Option Int} {sz:Nat} {x:SX} {α:Type} {H:α->List DV} {l:List α}
section
variable {P:Program} {s:Nat->SV} {h:Nat->Ch} {K:St->Prop} {sos:List SO}
theorem NR {R:Type} {r:R} {dst:Nat} {kk:List α->Option R} (Z:(cz l (lo.getD 0) (hi.getD l.length)).bind kk=some r) (hx:ev s x= .d (.slice (l.map H))) (hl:zu s i=some lo) (hh:zu s j=some hi) (F:∀ a,(H a).length=sz) (hk:∀ e,cz l (lo.getD 0) (hi.getD l.length)=some e->kk e=some r->aD P K sos ⟨am s dst (.d (.slice (e.map H))),h⟩):aD P K (.r dst (.slc sz x i j)::sos) ⟨s,h⟩:=by
 cases he:cz l (lo.getD 0) (hi.getD l.length) with
 |none=>rw[he] at Z;cases Z
 |some e=>
  rw[he] at Z
  have hk:=hk e he Z
  unfold cz at he
  split at he
  ·rename_i h0
   simp only[SN] at he
   refine iC (p:=_) (v:= .d (.slice (e.map H))) (by simp only[rd,hx,hl,hh,TL,<-he,List.map_drop,UZ];rfl) ?_ hk
   exact⟨fun q hq=>by obtain⟨z,_,rfl⟩:=Tp.1 hq;exact F z,h0⟩
  ·cases he
theorem NS {e:List α} {a t:Nat} (hx:ev s x= .d (.slice (l.map H))) (hl:zu s i=some lo) (hh:zu s j=some hi) (F:∀ a,(H a).length=sz) (ht:s t= .d (.slice (e.map H))) (he:cz l (lo.getD 0) (hi.getD l.length)=some e) (D:oQ ⟨s,h⟩ late):oQ ⟨s,h⟩ ((a,t,.slc sz x i j)::late):=by
 unfold cz at he
 split at he
 ·rename_i h0
  simp only[SN] at he
  simp only[oQ,Pa,rd,hx,hl,hh,TL]
  exact⟨⟨⟨fun q hq=>by obtain⟨z,_,rfl⟩:=Tp.1 hq;exact F z,h0⟩,by rw[ht,<-he,List.map_drop,UZ]⟩,D⟩
 ·cases he
theorem yD (o:Option α):SV.cells? (.d (rn H o))=some [.d (rn H o)]:=by cases o<;>rfl
attribute [push_cast] yD
theorem P3 {o:Option α} {id off:Nat} {y:SX} {cs C:List SV} (hx:ev s x= .ref id off) (hy:ev s y= .d (rn H o)) (hh:h id= .box cs) (hl:off+1<=cs.length) (U:splice cs off [.d (rn H o)]=C) (D:oQ ⟨s,am h id (.box C)⟩ late) (hk:aD P K sos ⟨s,am h id (.box C)⟩):aD P K (.x 0 (.st 1 x y) late::sos) ⟨s,h⟩:=by
 subst U
 exact B2 (p:=[SV.d (rn H o)].length=1/\off+1<=cs.length) (by simp only[wr,hx,hh,hy,yD]) ⟨rfl,hl⟩ D hk
end
end Go.Proofs.YtgmnipfafmphaaaGreatDoor

