/-
  My text.
-/
import Derived.Test.YtgmnipfafmphaaaGreatDoorSXEngRm
namespace Go.Proofs.YtgmnipfafmphaaaGreatDoor
set_option linter.unusedSimpArgs false
set_option linter.unusedVariables false
open Go.RowKit
variable {cells:List SV} {e i id sz:Nat}
section
variable {P:Program} {B:SC} {Q:AX->St->Prop} {s:Nat->SV} {h:Nat->Ch} {K:St->Prop} {sos:List SO} {α β:Type} {H:α->List DV} {A:β->List DV} {ms S:List bH} {l:List α} {l':List β}
theorem Dm {f off e' n':Nat} {o:List (List SV)} {c:List SV} (hj:h f= .vec e' n' o) (hh:h id= .vec e sz ((ar ms H l).set i cells)) (hd:cells[off]?=some (.vec f)) (D:bv o (ar S A l')) (hn:S.length=n') (F:∀ b,(A b).length=n') (hi:i<l.length) (U:id≠f) (hc:(ck f .any cells).set off (.own (.sl e' S) (.slice (l'.map A)))=c):
  bt ⟨s,h⟩ ⟨bG f .any s,ap (ap (bK f .any h) id (.vec e sz ((ar ms H l).set i c))) f .dead⟩:=by
 subst hn hc
 have h5:i<(ar ms H l).length:=by rw[du];exact hi
 have h1:bt ⟨s,h⟩ ⟨s,ap h f (.vec e' S.length (ar S A l'))⟩:=mJ (fun _=> .inl rfl) fun j=>by
  by_cases X:j=f
  ·subst X;simp only[ap,VW,hj];exact fO D
  ·simp only[ap,X,VQ];exact bT rfl
 have R:((ar ms H l).set i cells)[i]?=some cells:=Wg h5
 have h2:=nN (σ:=⟨s,ap h f (.vec e' S.length (ar S A l'))⟩) (id:=id) (g:=f) (p:= .v i off) (m:= .sl e' S) (d:= .slice (l'.map A)) (ch:= .vec e' S.length (ar S A l')) (mk:= .vec) U
  (by simp only[cP];rfl) (by intro r D;obtain⟨a,_,rfl⟩:=VT.1 D;exact F a) (by simp only[ap,U,VQ,hh,mm,R];exact hd) (by simp only[ap,VW])
 have q:((ar ms H l).set i (ck f .any cells))[i]?=some (ck f .any cells):=Wg h5
 have e1:hR ⟨s,ap h f (.vec e' S.length (ar S A l'))⟩ id (.v i off) f (.sl e' S) (.slice (l'.map A))=⟨bG f .any s,ap (ap (bK f .any h) id (.vec e sz ((ar ms H l).set i ((ck f .any cells).set off (.own (.sl e' S) (.slice (l'.map A))))))) f .dead⟩:=by
  simp only[hR,ap,U,VQ,hh,mj,tR,g9]
  congr 1
  funext j
  by_cases u:j=f
  ·subst u;simp only[ap,VW]
  ·by_cases r4:j=id
   ·subst r4
    simp only[ap,u,VQ,VW,ux,q,Xq]
   ·simp only[ap,u,r4,VQ,bK]
 rw[e1] at h2
 exact h1.trans h2
theorem Dn:∀ {a b:List (List SV)} {i:Nat} {c T:List SV},bv a b->ae c T->bv (a.set i c) (b.set i T)
 |_,_,_,_,_,.nil,_=> .nil
 |_,_,0,_,_,.cons _ hs,hc=> .cons hc hs
 |_,_,_+1,_,_,.cons h hs,hc=> .cons h (Dn hs hc)
theorem Ft {x':α} (hh:h id= .vec e sz ((ar ms H l).set i cells)) (hc:ae cells (bA ms (H x'))):
  bt ⟨s,h⟩ ⟨s,ap h id (.vec e sz (ar ms H (l.set i x')))⟩:=mJ (fun _=> .inl rfl) fun j=>by
 by_cases hj:j=id
 ·subst hj
  simp only[ap,VW,hh,xq]
  exact fO (Dn bv.rfl hc)
 ·simp only[ap,hj,VQ];exact bT rfl
theorem PP {n:Nat} {R:List (List SV)} {cs:List SV} {y v:SX} {late:List (Nat×Nat×sA)} (Y:ev s y= .vref id sz i 0) (hv:(ev s v).cells?=some cs) (hh:h id= .vec e sz (R.set i cells)) (hi:i<R.length) (hn:cs.length=n) (hl:cells.length=n) (D:su ⟨s,ap h id (.vec e sz (R.set i cs))⟩ late) (hk:aI P K sos ⟨s,ap h id (.vec e sz (R.set i cs))⟩):aI P K (.x 0 (.st n y v) late::sos) ⟨s,h⟩:=by
 have L:(R.set i cells)[i]?=some cells:=Wg hi
 have e1:splice cells 0 cs=cs:=by
  unfold splice
  simp only[List.take_zero,VC,VD]
  rw[WM oM,VL]
 refine Bj (p:=sz=sz/\cs.length=n/\0+n<=cells.length) (s':=s) (h':=ap h id (.vec e sz (R.set i cs))) ?_ ⟨rfl,hn,by omega⟩ D hk
 simp only[wr,Y,hv,hh,L,e1,Xq]
theorem Tr {t u d:Nat} {J:List Nat} {l:List SO} (L:s t= .d (.bool true)) (hd:(th J l&&PV [] l&& !tg J t)=true) (hk:∀ g,aI P K sos ⟨ap (Ih J g s) d (.d (.bool true)),h⟩):
  aI P K (aS J t false l (.r d (.pick (.t t) (.c (.d (.bool true))) (.t u))::sos)) ⟨s,h⟩:=
 sB (R:=Bool) (r:=true) (k:=fun v=>bif v then some true else none) (b:=true) (m1:=none) rfl L hd (fun v h=>by cases h) (fun v g hv=>by
  cases v with
  |true=>exact hk g
  |false=>cases hv)
end
