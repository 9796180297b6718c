/-
  My text.
-/
import Derived.Test.YtgmnipfafmphaaaGreatDoorSXEngRi
namespace Go.Proofs.YtgmnipfafmphaaaGreatDoor
set_option linter.unusedSimpArgs false
set_option linter.unusedVariables false
open Go.RowKit
variable {P:Program} {B:SC} {Q:AX->St->Prop} {α β:Type} {H:α->List DV} {A:β->List DV} {s:Nat->SV} {h:Nat->Ch} {ms S:List bH} {l:List α}
variable {R:Type} {e e' id n' off sz:Nat} {v:Int} {r:R}
theorem Dj (f d:Nat) {kk:α->Option R} {fld:α->List β} {cells:α->List SV} (Z:(aV l (IntKind.i64.wrap (v - 1))).bind kk=some r) (hi:s d= .d (.int .i64 v)) (hh:h id= .vec e sz (ar ms H l)) (j:ms[off]?=some (.sl e' S)) (V:S=List.replicate n' .sh) (hd:∀ x,(H x)[off]?=some (.slice ((fld x).map A))) (hc:∀ x,(bA ms (H x)).set off (.vec f)=cells x) (U:id≠f) (F:∀ b,(A b).length=n') (hk:∀ x,aV l (IntKind.i64.wrap (v - 1))=some x->kk x=some r->AW P B Q ⟨bG f .any s,ap (ap (bK f .any h) id (.vec e sz ((ar ms H l).set (IntKind.i64.wrap (v - 1)).toNat (cells x)))) f (.vec e' n' (aY A (fld x)))⟩):AW P B Q ⟨s,h⟩:=by
 subst V
 cases he:aV l (IntKind.i64.wrap (v - 1)) with
 |none=>rw[he] at Z;cases Z
 |some x=>
  rw[he] at Z
  have h1:=rB (s:=s) (f:=f) hh (jk he) j (hd x) U
  rw[hc x,p8 F,VE] at h1
  exact p2 h1 (hk x he Z)
theorem Nz (f:Nat) {kk:α->Option R} {fld:α->List β} {cells:α->List SV} (Z:(aV l (IntKind.i64.wrap ((l.length:Int) - 1))).bind kk=some r) (hh:h id= .vec e sz (ar ms H l)) (j:ms[off]?=some (.sl e' S)) (V:S=List.replicate n' .sh) (hd:∀ x,(H x)[off]?=some (.slice ((fld x).map A))) (hc:∀ x,(bA ms (H x)).set off (.vec f)=cells x) (U:id≠f) (F:∀ b,(A b).length=n') (hk:∀ x,aV l (IntKind.i64.wrap ((l.length:Int) - 1))=some x->kk x=some r->AW P B Q ⟨bG f .any s,ap (ap (bK f .any h) id (.vec e sz ((ar ms H l).set (IntKind.i64.wrap ((l.length:Int) - 1)).toNat (cells x)))) f (.vec e' n' (aY A (fld x)))⟩):AW P B Q ⟨s,h⟩:=by
 subst V
 cases he:aV l (IntKind.i64.wrap ((l.length:Int) - 1)) with
 |none=>rw[he] at Z;cases Z
 |some x=>
  rw[he] at Z
  have h1:=rB (s:=s) (f:=f) hh (jk he) j (hd x) U
  rw[hc x,p8 F,VE] at h1
  exact p2 h1 (hk x he Z)
theorem Dk (f d:Nat) {kk:α->Option R} {fld:α->List β} {cells:α->List SV} (Z:(aV l (IntKind.i64.wrap (v - 1))).bind kk=some r) (hi:s d= .d (.int .i64 v)) (hh:h id= .vec e sz (ar ms H l)) (j:ms[off]?=some (.sl e' S)) (hn:S.length=n') (hd:∀ x,(H x)[off]?=some (.slice ((fld x).map A))) (hc:∀ x,(bA ms (H x)).set off (.vec f)=cells x) (U:id≠f) (hk:∀ x,aV l (IntKind.i64.wrap (v - 1))=some x->kk x=some r->AW P B Q ⟨bG f .any s,ap (ap (bK f .any h) id (.vec e sz ((ar ms H l).set (IntKind.i64.wrap (v - 1)).toNat (cells x)))) f (.vec e' n' (ar S A (fld x)))⟩):AW P B Q ⟨s,h⟩:=by
 subst hn
 cases he:aV l (IntKind.i64.wrap (v - 1)) with
 |none=>rw[he] at Z;cases Z
 |some x=>
  rw[he] at Z
  have h1:=rB (s:=s) (f:=f) hh (jk he) j (hd x) U
  rw[hc x] at h1
  exact p2 h1 (hk x he Z)
