/-
  My text.
-/
import Derived.Test.YtgocgdgknpdknaaGreatDoorSXEngRg
namespace Go.Proofs.YtgocgdgknpdknaaGreatDoor
set_option linter.unusedSimpArgs false
set_option linter.unusedVariables false
open Go.RowKit
mutual
def E7 (π:Nat->Nat):SV->SV
 | .ref id o=> .ref (π id) o
 | .vec id=> .vec (π id)
 | .vref id sz i o=> .vref (π id) sz i o
 | .mp id=> .mp (π id)
 | .agg cs=> .agg (wu π cs)
 | .tup cs=> .tup (wu π cs)
 | .lit sz n cs=> .lit sz n (wu π cs)
 | .d v=> .d v
 | .nils=> .nils
 | .own m v=> .own m v
def wu (π:Nat->Nat):List SV->List SV
 |[]=>[]
 |c::cs=>E7 π c::wu π cs
end
def Gs (π:Nat->Nat) (rows:List (List SV)):List (List SV):=rows.map (wu π)
def DX (π:Nat->Nat) (kv:List (DV×SV)):List (DV×SV):=kv.map fun p=>(p.1,E7 π p.2)
def HX (π:Nat->Nat):Ch->Ch
 | .dead=> .dead
 | .box cs=> .box (wu π cs)
 | .vec e sz rows=> .vec e sz (Gs π rows)
 | .map kk kv=> .map kk (DX π kv)
 | .bld T e bs=> .bld T e bs
section
variable {w:World} {M:Nat->Prop} {κ:Nat->Value} {π:Nat->Nat}
end
def Hu (π:Nat->Nat) (σ:St):St:=⟨fun i=>E7 π (σ.s i),fun i=>HX π (σ.h (π i))⟩
section
variable {c:Cx} {σ:St} {κ:Nat->Value} {φ:Nat->List Nat} {a:Act} {w:World} {π:Nat->Nat}
def IK (N:Nat) (xs:List SV) (σ:St):St:=⟨fun i=>if i<N then(match xs[i]? with|some x=>x|none=> .d .any) else σ.s (i - N),σ.h⟩
def E8 (N:Nat) (dst:Option Nat) (v:SV) (σ:St):St:=⟨match dst with|some d=>aI (fun i=>σ.s (N+i)) d v|none=>fun i=>σ.s (N+i),σ.h⟩
end
section
variable {P:Program} {c:Cx} {σ:St} {κ:Nat->Value} {φ:Nat->List Nat} {a:Act} {w:World}
end
section
variable {P:Program} {x0:SC} {Q:AX->St->Prop} {s:Nat->SV} {h:Nat->Ch} {α β:Type} {row:α->List DV} {row':β->List DV} {ms ms':List bQ} {l:List α}
end
theorem y3 (π:Nat->Nat):∀ (ms:List bQ) (ds:List DV),wu π (jf ms ds)=jf ms ds
 |[],ds=>by simp[jf,wu]
 |m::ms,[]=>by simp[jf,wu]
 |m::ms,d::ds=>by
  have:=y3 π ms ds
  simp only[jf] at this
  simp only[jf,List.zipWith_cons_cons,wu,this]
  cases m<;>rfl
theorem DY {K V:Type} {ke:K->DV} {f:V->DV} (π:Nat->Nat) (W:List (K×V)):DX π (ft ke (fun v=> .d (f v)) W)=ft ke (fun v=> .d (f v)) W:=by
 simp only[DX,ft,Ly];rfl
theorem E9 {K α:Type} {ke:K->DV} {e:Nat} {ms:List bQ} {row:α->List DV} (π:Nat->Nat) (W:List (K×List α)):DX π (ft ke (IX e ms row) W)=ft ke (IX e ms row) W:=by
 simp only[DX,ft,Ly];rfl
theorem E_ (π:Nat->Nat):Gs π []=[]:=rfl
theorem DZ (π:Nat->Nat) (r:List SV) (l:List (List SV)):Gs π (r::l)=wu π r::Gs π l:=rfl
theorem Fc (π:Nat->Nat):DX π []=[]:=rfl
theorem Gt (π:Nat->Nat) (σ:St) (i:Nat):(Hu π σ).s i=E7 π (σ.s i):=rfl
theorem Gu (π:Nat->Nat) (σ:St) (i:Nat):(Hu π σ).h i=HX π (σ.h (π i)):=rfl
theorem HY (N:Nat) (xs:List SV) (σ:St) (i:Nat):(IK N xs σ).s i=if i<N then(match xs[i]? with|some x=>x|none=> .d .any) else σ.s (i - N):=rfl
theorem HZ (N:Nat) (xs:List SV) (σ:St) (i:Nat):(IK N xs σ).h i=σ.h i:=rfl
theorem Gv (N d:Nat) (v:SV) (σ:St) (i:Nat):(E8 N (some d) v σ).s i=if i=d then v else σ.s (N+i):=rfl
theorem Fd (N:Nat) (v:SV) (σ:St) (i:Nat):(E8 N none v σ).s i=σ.s (N+i):=rfl
theorem Gw (N:Nat) (d:Option Nat) (v:SV) (σ:St) (i:Nat):(E8 N d v σ).h i=σ.h i:=rfl
attribute [push_cast] E7 wu HX y3 DY E9 E_ DZ Fc Gt Gu HY HZ Gv Fd Gw Fp RV.sv qX
