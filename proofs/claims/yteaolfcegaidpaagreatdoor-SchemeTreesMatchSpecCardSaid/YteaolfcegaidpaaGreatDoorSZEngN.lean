/-
  My text.
-/
import Derived.Test.YteaolfcegaidpaaGreatDoorSZEngM
import GoSem.ClaimChange
import GoSem.ClaimWide
import Derived.ChangeArms
namespace Go.Proofs.YteaolfcegaidpaaGreatDoor
set_option linter.unusedSimpArgs false
set_option linter.unusedVariables false
open Go.RowKit
variable {M:Nat->Prop} {v:Value}
mutual
def pQ {H:Type}:DataW H->Nat
 | .lit (.string bytes)=>bytes.length+1
 | .lit _=>1
 | .nil=>1
 | .ptr d=>pQ d+1
 | .slice elems b=>sb elems+sb b+1
 | .agg parts=>sb parts+1
 | .iface _ d=>pQ d+1
 | .map a=>Mq a+1
 | .held _=>1
def sb {H:Type}:List (DataW H)->Nat
 |[]=>0
 |d::r=>pQ d+sb r
def Mq {H:Type}:List (Lit×DataW H)->Nat
 |[]=>0
 |x::r=>Qa x+Mq r
def Qa {H:Type}:Lit×DataW H->Nat
 |(.string bytes,d)=>bytes.length+pQ d+1
 |(_,d)=>pQ d+1
end
mutual
def N5:DV->Nat
 | .str s=>s.length+1
 | .slice rows=>I4 rows+1
 | .agg cs=>rB cs
 | .tup cs=>rB cs
 | .ptr cs=>rB cs+1
 | .fn _ _=>1
 | .int _ _=>1
 | .bool _=>1
 | .raw _=>1
 | .map _ _=>1
 | .err=>1
 | .any=>1
def rB:List DV->Nat
 |[]=>0
 |c::cs=>N5 c+rB cs
def I4:List (List DV)->Nat
 |[]=>0
 |r::rs=>rB r+I4 rs
end
theorem BX:∀ (a b:List DV),rB (a++b)=rB a+rB b
 |[],b=>by simp[rB]
 |c::a,b=>by simp[rB,BX a b];omega
def BZ (P:Program):Nat->List Field->Nat->Bool
 |o,[],n=>o==n
 |o,f::fs,n=>f.offset==o&&BZ P (o+P.cellsOf f.type) fs n
def JR (W:TypeId->List DV->Prop):List Field->List DV->Prop
 |[],O=>O=[]
 |f::fs,O=>∃ a T,O=a++T/\W f.type a/\JR W fs T
def WT (P:Program):Nat->TypeId->List DV->Prop
 |0,_,_=>False
 |n+1,t,O=>match P.underlying t with
  |some .bool=>∃ b,O=[.bool b]
  |some (.int k)=>∃ m,O=[.int k m]/\(Lit.int k m).wf=true
  |some .string=>∃ s,O=[.str s]/\s.length<=maxLen
  |some (.slice e)=>∃ rows,O=[.slice rows]/\rows.length<=maxLen/\∀ r∈rows,WT P n e r
  |some (.struct fs)=>JR (WT P n) fs.toList O
  |_=>False
def PJ:Nat->Prop:=fun _=>False
theorem Dv {α:Type} {f:Nat->Option α}:∀ (m k:Nat) {ys:List α},(List.range' k m).mapM f=some ys->ys.length=m/\∀ j,j<m->∃ y,f (k+j)=some y/\ys[j]?=some y
 |0,k,ys,h=>by simp at h;subst h;simp
 |m+1,k,ys,h=>by
  rw[List.range'_succ,List.mapM_cons] at h
  cases hf:f k with
  |none=>simp[hf] at h
  |some y=>
   cases hr:(List.range' (k+1) m).mapM f with
   |none=>simp[hf,hr] at h
   |some zs=>
    simp[hf,hr] at h
    subst h
    obtain⟨h1,h2⟩:=Dv m (k+1) hr
    refine⟨by simp[h1],fun j hj=> ?_⟩
    cases j with
    |zero=>exact⟨y,by simpa using hf,by simp⟩
    |succ j=>
     obtain⟨z,A,B⟩:=h2 j oM
     exact⟨z,by rw[show k+(j+1)=k+1+j by omega];exact A,by simpa using B⟩
theorem HF {α:Type} {f:Nat->Option α} {m:Nat} {ys:List α} (h:(List.range m).mapM f=some ys):ys.length=m/\∀ j,j<m->∃ y,f j=some y/\ys[j]?=some y:=by
 rw[UX] at h
 simpa using Dv m 0 h
theorem Fw {w:World} {a:Addr} {n:Nat} {vs:List Value} (h:w.cells? 0 a n=some vs):vs.length=n/\∀ j v,vs[j]?=some v->w.cell? (a.add j)=some v:=by
 simp only[World.cells?,To,T6] at h
 obtain⟨h1,h2⟩:=HF h
 refine⟨h1,fun j v hj=> ?_⟩
 have h9:=(SY.1 hj).1
 obtain⟨y,d,b⟩:=h2 j oM
 rw[hj] at b;simp at b;subst b;exact d
section
variable {H:Type} {enc:TypeId×Value->H} {P:Program} {w:World} {sp:Nat->Bool} {Q:Bool}
def HG (P:Program) (w:World) (n:Nat) (t:TypeId) (cs:List Value) (a:Nat):Prop:=
 ∃ O,aN w PJ O cs/\(∀ x∈cs,x.oneCell'=true)/\WT P n t O/\rB O<=a
theorem HH:∀ (fs:List Field) (o n:Nat),BZ P o fs n=true->o<=n
 |[],o,n,h=>by simp[BZ] at h;omega
 |f::fs,o,n,h=>by
  simp only[BZ,SR] at h
  have:=HH fs _ _ h.2
  omega
theorem I5 {W:World} {a:Nat} {t:TypeId} {fs:Array Field} (Y:P.underlying t=some (.struct fs)) (h:Value.okWide P W .any a t v):∃ vs,v= .agg vs:=by
 unfold Value.okWide at h
 simp only[Y] at h
 obtain⟨cs,h,_⟩:=h
 exact⟨cs,h⟩
theorem Oq {vs:Array Value} {O:List DV} (hv:v= .agg vs) (h:aN w M O v.cells.toList) (h1:∀ x∈v.cells.toList,x.oneCell'=true):ba w M (.agg O) v:=by
 subst hv
 unfold ba
 exact⟨vs.toList,by simp,h1,h⟩
theorem CL {c:DV} (hv:∀ vs,v≠ .agg vs) (h:aN w M [c] v.cells.toList):ba w M c v:=by
 have:v.cells= #[v]:=by
  cases v with
  |agg vs=>exact absurd rfl (hv vs)
  |_=>rfl
 rw[this] at h
 simp only[aN] at h
 obtain⟨u,us,J,hr,_⟩:=h
 simp at J
 rw[J.1];exact hr
end
