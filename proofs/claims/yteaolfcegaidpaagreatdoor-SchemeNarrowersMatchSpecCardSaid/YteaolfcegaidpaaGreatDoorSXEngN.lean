/-
  My text.
-/
import Derived.Test.YteaolfcegaidpaaGreatDoorSXEngM
import GoSem.ClaimChange
import GoSem.ClaimWide
import Derived.ChangeArms
namespace Go.Proofs.YteaolfcegaidpaaGreatDoor
set_option linter.unusedSimpArgs false
set_option linter.unusedVariables false
open Go.RowKit
mutual
def nY {H:Type}:DataW H->Nat
 | .lit (.string bytes)=>bytes.length+1
 | .lit _=>1
 | .nil=>1
 | .ptr d=>nY d+1
 | .slice elems spare=>pB elems+pB spare+1
 | .agg parts=>pB parts+1
 | .iface _ d=>nY d+1
 | .map entries=>Hs entries+1
 | .held _=>1
def pB {H:Type}:List (DataW H)->Nat
 |[]=>0
 |d::r=>nY d+pB r
def Hs {H:Type}:List (Lit×DataW H)->Nat
 |[]=>0
 |x::r=>Ke x+Hs r
def Ke {H:Type}:Lit×DataW H->Nat
 |(.string bytes,d)=>bytes.length+nY d+1
 |(_,d)=>nY d+1
end
mutual
def IA:DV->Nat
 | .str s=>s.length+1
 | .slice rows=>Ey rows+1
 | .agg cs=>ph cs
 | .tup cs=>ph cs
 | .ptr cs=>ph cs+1
 | .fn _ _=>1
 | .int _ _=>1
 | .bool _=>1
 | .raw _=>1
 | .map _ _=>1
 | .err=>1
 | .any=>1
def ph:List DV->Nat
 |[]=>0
 |c::cs=>IA c+ph cs
def Ey:List (List DV)->Nat
 |[]=>0
 |r::rs=>ph r+Ey rs
end
theorem yt:∀ (a b:List DV),ph (a++b)=ph a+ph b
 |[],b=>by simp[ph]
 |c::a,b=>by simp[ph,yt a b];omega
def yu (P:Program):Nat->List Field->Nat->Bool
 |o,[],n=>o==n
 |o,f::fs,n=>f.offset==o&&yu P (o+P.cellsOf f.type) fs n
def Ht (W:TypeId->List DV->Prop):List Field->List DV->Prop
 |[],ds=>ds=[]
 |f::fs,ds=>∃ a rest,ds=a++rest/\W f.type a/\Ht W fs rest
def WT (P:Program):Nat->TypeId->List DV->Prop
 |0,_,_=>False
 |n+1,t,ds=>match P.underlying t with
  |some .bool=>∃ b,ds=[.bool b]
  |some (.int k)=>∃ m,ds=[.int k m]/\(Lit.int k m).wf=true
  |some .string=>∃ s,ds=[.str s]/\s.length<=maxLen
  |some (.slice e)=>∃ rows,ds=[.slice rows]/\rows.length<=maxLen/\∀ r∈rows,WT P n e r
  |some (.struct fs)=>Ht (WT P n) fs.toList ds
  |_=>False
def JL:Nat->Prop:=fun _=>False
theorem zK {α:Type} {f:Nat->Option α}:∀ (m k:Nat) {ys:List α},(List.range' k m).mapM f=some ys->ys.length=m/\∀ j,j<m->∃ y,f (k+j)=some y/\ys[j]?=some y
 |0,k,ys,h=>by simp at h;subst h;simp
 |m+1,k,ys,h=>by
  rw[List.range'_succ,List.mapM_cons] at h
  cases hf:f k with
  |none=>simp[hf] at h
  |some y=>
   cases hr:(List.range' (k+1) m).mapM f with
   |none=>simp[hf,hr] at h
   |some zs=>
    simp[hf,hr] at h
    subst h
    obtain⟨h1,h2⟩:=zK m (k+1) hr
    refine⟨by simp[h1],fun j hj=> ?_⟩
    cases j with
    |zero=>exact⟨y,by simpa using hf,by simp⟩
    |succ j=>
     obtain⟨z,hz1,hz2⟩:=h2 j oM
     exact⟨z,by rw[show k+(j+1)=k+1+j by omega];exact hz1,by simpa using hz2⟩
theorem Dh {α:Type} {f:Nat->Option α} {m:Nat} {ys:List α} (h:(List.range m).mapM f=some ys):ys.length=m/\∀ j,j<m->∃ y,f j=some y/\ys[j]?=some y:=by
 rw[List.range_eq_range'] at h
 simpa using zK m 0 h
theorem Bo {w:World} {a:Addr} {n:Nat} {vs:List Value} (h:w.cells? 0 a n=some vs):vs.length=n/\∀ j v,vs[j]?=some v->w.cell? (a.add j)=some v:=by
 simp only[World.cells?,ME,Nr] at h
 obtain⟨h1,h2⟩:=Dh h
 refine⟨h1,fun j v hj=> ?_⟩
 have hlt:=(Md.1 hj).1
 obtain⟨y,hy1,hy2⟩:=h2 j oM
 rw[hj] at hy2;simp at hy2;subst hy2;exact hy1
section
variable {H:Type} {enc:TypeId×Value->H} {P:Program} {w:World} {sp:Nat->Bool} {held:Bool}
def Di (P:Program) (w:World) (n:Nat) (t:TypeId) (cs:List Value) (bulk:Nat):Prop:=
 ∃ ds,aB w JL ds cs/\(∀ x∈cs,x.oneCell'=true)/\WT P n t ds/\ph ds<=bulk
theorem Dj:∀ (fs:List Field) (o n:Nat),yu P o fs n=true->o<=n
 |[],o,n,h=>by simp[yu] at h;omega
 |f::fs,o,n,h=>by
  simp only[yu,L9] at h
  have:=Dj fs _ _ h.2
  omega
theorem Ez {W:World} {base:Nat} {t:TypeId} {fs:Array Field} {v:Value} (ht:P.underlying t=some (.struct fs)) (h:Value.okWide P W .any base t v):∃ vs,v= .agg vs:=by
 unfold Value.okWide at h
 simp only[ht] at h
 obtain⟨cs,h,_⟩:=h
 exact⟨cs,h⟩
theorem IU {M:Nat->Prop} {v:Value} {vs:Array Value} {ds:List DV} (hv:v= .agg vs) (h:aB w M ds v.cells.toList) (h1:∀ x∈v.cells.toList,x.oneCell'=true):aK w M (.agg ds) v:=by
 subst hv
 unfold aK
 exact⟨vs.toList,by simp,h1,h⟩
theorem yY {M:Nat->Prop} {v:Value} {c:DV} (hv:∀ vs,v≠ .agg vs) (h:aB w M [c] v.cells.toList):aK w M c v:=by
 have:v.cells= #[v]:=by
  cases v with
  |agg vs=>exact absurd rfl (hv vs)
  |_=>rfl
 rw[this] at h
 simp only[aB] at h
 obtain⟨u,us,he,hr,_⟩:=h
 simp at he
 rw[he.1];exact hr
end
