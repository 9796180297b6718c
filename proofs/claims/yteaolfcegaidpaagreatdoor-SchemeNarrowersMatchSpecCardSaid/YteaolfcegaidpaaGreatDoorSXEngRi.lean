/-
  My text.
-/
import Derived.Test.YteaolfcegaidpaaGreatDoorSXEngRg
namespace Go.Proofs.YteaolfcegaidpaaGreatDoor
set_option linter.unusedSimpArgs false
set_option linter.unusedVariables false
open Go.RowKit
mutual
def Hz (π:Nat->Nat):SV->SV
 | .ref id o=> .ref (π id) o
 | .vec id=> .vec (π id)
 | .vref id sz i o=> .vref (π id) sz i o
 | .mp id=> .mp (π id)
 | .clo f l=> .clo f (l.map π)
 | .agg cs=> .agg (yN π cs)
 | .tup cs=> .tup (yN π cs)
 | .lit sz n cs=> .lit sz n (yN π cs)
 | .d v=> .d v
 | .nils=> .nils
 | .own m v=> .own m v
def yN (π:Nat->Nat):List SV->List SV
 |[]=>[]
 |c::cs=>Hz π c::yN π cs
end
def IW (π:Nat->Nat) (rows:List (List SV)):List (List SV):=rows.map (yN π)
def Gj (π:Nat->Nat) (kv:List (DV×SV)):List (DV×SV):=kv.map fun p=>(p.1,Hz π p.2)
def Ki (π:Nat->Nat):Ch->Ch
 | .dead=> .dead
 | .box cs=> .box (yN π cs)
 | .vec e sz rows=> .vec e sz (IW π rows)
 | .map kk kv=> .map kk (Gj π kv)
 | .bld T e bs=> .bld T e bs
section
variable {w:World} {M:Nat->Prop} {κ:Nat->Value} {π:Nat->Nat}
end
def JM (π:Nat->Nat) (σ:St):St:=⟨fun i=>Hz π (σ.s i),fun i=>Ki π (σ.h (π i))⟩
section
variable {c:Cx} {σ:St} {κ:Nat->Value} {φ:Nat->List Nat} {a:Act} {w:World} {π:Nat->Nat}
def La (N:Nat) (xs:List SV) (σ:St):St:=⟨fun i=>if i<N then(match xs[i]? with|some x=>x|none=> .d .any) else σ.s (i - N),σ.h⟩
def HA (N:Nat) (dst:Option Nat) (v:SV) (σ:St):St:=⟨match dst with|some d=>ay (fun i=>σ.s (N+i)) d v|none=>fun i=>σ.s (N+i),σ.h⟩
end
section
variable {P:Program} {c:Cx} {σ:St} {κ:Nat->Value} {φ:Nat->List Nat} {a:Act} {w:World}
end
section
variable {P:Program} {x0:SC} {Q:AX->St->Prop} {s:Nat->SV} {h:Nat->Ch} {α β:Type} {row:α->List DV} {row':β->List DV} {ms ms':List b8} {l:List α}
end
theorem Bt (π:Nat->Nat):∀ (ms:List b8) (ds:List DV),yN π (fB ms ds)=fB ms ds
 |[],ds=>by simp[fB,yN]
 |m::ms,[]=>by simp[fB,yN]
 |m::ms,d::ds=>by
  have:=Bt π ms ds
  simp only[fB] at this
  simp only[fB,List.zipWith_cons_cons,yN,this]
  cases m<;>rfl
theorem Gk {K V:Type} {ke:K->DV} {f:V->DV} (π:Nat->Nat) (W:List (K×V)):Gj π (ex ke (fun v=> .d (f v)) W)=ex ke (fun v=> .d (f v)) W:=by
 simp only[Gj,ex,NV];rfl
theorem HB {K α:Type} {ke:K->DV} {e:Nat} {ms:List b8} {row:α->List DV} (π:Nat->Nat) (W:List (K×List α)):Gj π (ex ke (Ll e ms row) W)=ex ke (Ll e ms row) W:=by
 simp only[Gj,ex,NV];rfl
theorem HC (π:Nat->Nat):IW π []=[]:=rfl
theorem Gl (π:Nat->Nat) (r:List SV) (l:List (List SV)):IW π (r::l)=yN π r::IW π l:=rfl
theorem HD (π:Nat->Nat):Gj π []=[]:=rfl
theorem IX (π:Nat->Nat) (σ:St) (i:Nat):(JM π σ).s i=Hz π (σ.s i):=rfl
theorem IY (π:Nat->Nat) (σ:St) (i:Nat):(JM π σ).h i=Ki π (σ.h (π i)):=rfl
theorem Kj (N:Nat) (xs:List SV) (σ:St) (i:Nat):(La N xs σ).s i=if i<N then(match xs[i]? with|some x=>x|none=> .d .any) else σ.s (i - N):=rfl
theorem Kl (N:Nat) (xs:List SV) (σ:St) (i:Nat):(La N xs σ).h i=σ.h i:=rfl
theorem IZ (N d:Nat) (v:SV) (σ:St) (i:Nat):(HA N (some d) v σ).s i=if i=d then v else σ.s (N+i):=rfl
theorem HE (N:Nat) (v:SV) (σ:St) (i:Nat):(HA N none v σ).s i=σ.s (N+i):=rfl
theorem I0 (N:Nat) (d:Option Nat) (v:SV) (σ:St) (i:Nat):(HA N d v σ).h i=σ.h i:=rfl
attribute [push_cast] Hz yN Ki Bt Gk HB HC Gl HD IX IY Kj Kl IZ HE I0 HQ RV.sv tp
