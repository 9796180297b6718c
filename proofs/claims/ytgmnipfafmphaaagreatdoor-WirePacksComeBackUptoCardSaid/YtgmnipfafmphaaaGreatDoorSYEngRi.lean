/-
  My text.
-/
import Derived.Test.YtgmnipfafmphaaaGreatDoorSYEngRg
namespace Go.Proofs.YtgmnipfafmphaaaGreatDoor
set_option linter.unusedSimpArgs false
set_option linter.unusedVariables false
open Go.RowKit
variable {K:Type} {e e' i id:Nat} {ms:List bj} {n' off sz:Nat} {α:Type} {u:K->DV}
mutual
def Lm (π:Nat->Nat):SV->SV
 | .ref id o=> .ref (π id) o
 | .vec id=> .vec (π id)
 | .vref id sz i o=> .vref (π id) sz i o
 | .mp id=> .mp (π id)
 | .agg cs=> .agg (yY π cs)
 | .tup cs=> .tup (yY π cs)
 | .lit sz n cs=> .lit sz n (yY π cs)
 | .d v=> .d v
 | .nils=> .nils
 | .own m v=> .own m v
def yY (π:Nat->Nat):List SV->List SV
 |[]=>[]
 |c::cs=>Lm π c::yY π cs
end
def NL (π:Nat->Nat) (rows:List (List SV)):List (List SV):=rows.map (yY π)
def Jx (π:Nat->Nat) (kv:List (DV×SV)):List (DV×SV):=kv.map fun p=>(p.1,Lm π p.2)
def PZ (π:Nat->Nat):Ch->Ch
 | .dead=> .dead
 | .box cs=> .box (yY π cs)
 | .vec e sz rows=> .vec e sz (NL π rows)
 | .map kk kv=> .map kk (Jx π kv)
 | .bld T e bs=> .bld T e bs
def Pb (π:Nat->Nat) (σ:St):St:=⟨fun i=>Lm π (σ.s i),fun i=>PZ π (σ.h (π i))⟩
section
variable {c:Cx} {σ:St} {κ:Nat->Value} {φ:Nat->List Nat} {a:Act} {w:World} {π:Nat->Nat}
def Rc (N:Nat) (xs:List SV) (σ:St):St:=⟨fun i=>if i<N then(match xs[i]? with|some x=>x|none=> .d .any) else σ.s (i - N),σ.h⟩
def Ln (N:Nat) (dst:Option Nat) (v:SV) (σ:St):St:=⟨match dst with|some d=>am (fun i=>σ.s (N+i)) d v|none=>fun i=>σ.s (N+i),σ.h⟩
end
section
variable {P:Program} {c:Cx} {σ:St} {κ:Nat->Value} {φ:Nat->List Nat} {a:Act} {w:World}
end
section
variable {P:Program} {B:SC} {Q:AX->St->Prop} {s:Nat->SV} {h:Nat->Ch} {α β:Type} {H:α->List DV} {A:β->List DV} {ms ms':List bj} {l:List α}
theorem Lo {d:Nat} (f t:Nat) {fld:α->List β} {cells:α->List SV} {x:α} (Y:s t= .vref id sz i d) (hh:h id= .vec e sz (au ms H l)) (hx:l[i]?=some x) (j:ms[off]?=some (.sl e' (List.replicate n' .sh))) (hd:∀ x,(H x)[off]?=some (.slice ((fld x).map A))) (hc:∀ x,(bi ms (H x)).set off (.vec f)=cells x) (U:id≠f) (F:∀ b,(A b).length=n') (hk:AW P B Q ⟨bl f .any s,am (am (bG f .any h) id (.vec e sz ((au ms H l).set i (cells x)))) f (.vec e' n' (aM A (fld x)))⟩):AW P B Q ⟨s,h⟩:=by
 rw[<-hc x] at hk
 have h1:=xN (s:=s) (f:=f) hh hx j (hd x) U
 rw[oi F,Tn] at h1
 exact pO h1 hk
theorem Ic {R:Type} {r:R} (f d:Nat) {n:Int} {k:IntKind} {kk:α->Option R} {fld:α->List β} {cells:α->List SV} (Z:(b4 l n).bind kk=some r) (hi:s d= .d (.int k n)) (hh:h id= .vec e sz (au ms H l)) (j:ms[off]?=some (.sl e' ms')) (hn:ms'.length=n') (hd:∀ x,(H x)[off]?=some (.slice ((fld x).map A))) (hc:∀ x,(bi ms (H x)).set off (.vec f)=cells x) (U:id≠f) (hk:∀ x,b4 l n=some x->kk x=some r->AW P B Q ⟨bl f .any s,am (am (bG f .any h) id (.vec e sz ((au ms H l).set n.toNat (cells x)))) f (.vec e' n' (au ms' A (fld x)))⟩):AW P B Q ⟨s,h⟩:=by
 subst hn
 cases he:b4 l n with
 |none=>rw[he] at Z;cases Z
 |some x=>
  rw[he] at Z
  have h1:=xN (s:=s) (f:=f) hh (m9 he) j (hd x) U
  rw[hc x] at h1
  exact pO h1 (hk x he Z)
theorem Ha {f:Nat} {o:List (List SV)} {cells:List SV} {x x':α} {l':List β} (hj:h f= .vec e' n' o) (hh:h id= .vec e sz ((au ms H l).set i cells)) (hx:l[i]?=some x) (hc:(bi ms (H x)).set off (.vec f)=cells) (D:bL o (au ms' A l')) (j:ms[off]?=some (.sl e' ms')) (hn:ms'.length=n') (F:∀ b,(A b).length=n') (X:off<(H x).length) (hy:H x'=(H x).set off (.slice (l'.map A))) (U:id≠f):
  bm ⟨s,h⟩ ⟨bl f .any s,am (am (bG f .any h) id (.vec e sz (au ms H (l.set i x')))) f .dead⟩:=by
 subst hc
 exact Ba hh hx hj D hn j (by rw[hn];exact F) X hy U
end
theorem FF {β:Type} {H:β->List DV} {x:SV} (h1:x= .nils):Ik x (.own (.sl e ms) (.slice (List.map H ([]:List β)))):= .inr ⟨h1,_,_,rfl⟩
theorem tZ {s:Nat->SV} {h:Nat->Ch} {r0:List SV} (id:Nat) (ms:List bj) (H:α->List DV) {l:List α} (hh:h id= .vec e sz [r0]) (D:bL [r0] (au ms H l)):bm ⟨s,h⟩ ⟨s,am h id (.vec e sz (au ms H l))⟩:=
 p0 (rows:=[]) (ys:=[r0]) id ms H hh D
theorem C1 (π:Nat->Nat):∀ (ms:List bj) (J:List DV),yY π (bi ms J)=bi ms J
 |[],J=>by simp[bi,yY]
 |m::ms,[]=>by simp[bi,yY]
 |m::ms,d::J=>by
  have:=C1 π ms J
  simp only[bi] at this
  simp only[bi,UN,yY,this]
  cases m<;>rfl
theorem Jy {V:Type} {f:V->DV} (π:Nat->Nat) (W:List (K×V)):Jx π (kw u (fun v=> .d (f v)) W)=kw u (fun v=> .d (f v)) W:=by
 simp only[Jx,kw,Us];rfl
theorem Lp {H:α->List DV} (π:Nat->Nat) (W:List (K×List α)):Jx π (kw u (Rj e ms H) W)=kw u (Rj e ms H) W:=by
 simp only[Jx,kw,Us];rfl
theorem Lq (π:Nat->Nat):NL π []=[]:=rfl
theorem Jz (π:Nat->Nat) (r:List SV) (l:List (List SV)):NL π (r::l)=yY π r::NL π l:=rfl
theorem Lr (π:Nat->Nat):Jx π []=[]:=rfl
theorem NM (π:Nat->Nat) (σ:St) (i:Nat):(Pb π σ).s i=Lm π (σ.s i):=rfl
theorem NN (π:Nat->Nat) (σ:St) (i:Nat):(Pb π σ).h i=PZ π (σ.h (π i)):=rfl
theorem P0 (N:Nat) (xs:List SV) (σ:St) (i:Nat):(Rc N xs σ).s i=if i<N then(match xs[i]? with|some x=>x|none=> .d .any) else σ.s (i - N):=rfl
theorem P1 (N:Nat) (xs:List SV) (σ:St) (i:Nat):(Rc N xs σ).h i=σ.h i:=rfl
theorem NO (N d:Nat) (v:SV) (σ:St) (i:Nat):(Ln N (some d) v σ).s i=if i=d then v else σ.s (N+i):=rfl
theorem Ls (N:Nat) (v:SV) (σ:St) (i:Nat):(Ln N none v σ).s i=σ.s (N+i):=rfl
theorem NP (N:Nat) (d:Option Nat) (v:SV) (σ:St) (i:Nat):(Ln N d v σ).h i=σ.h i:=rfl
attribute [push_cast] Lm yY PZ C1 Jy Lp Lq Jz Lr NM NN P0 P1 NO Ls NP JF RV.sv pQ
theorem NQ {rows:List (List SV)} (h:(rows.all fun q=>q.length==sz)=true):∀ r∈rows,r.length=sz:=fun q hq=>by have:=Ti.1 h q hq;simpa using this
end Go.Proofs.YtgmnipfafmphaaaGreatDoor

