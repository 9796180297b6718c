/-
  My text.
-/
import Derived.Test.YtgmnipfafmphaaaGreatDoorSXEngX
namespace Go.Proofs.YtgmnipfafmphaaaGreatDoor
set_option linter.unusedSimpArgs false
set_option linter.unusedVariables false
open Go.RowKit
variable {A R S:Type} {i n:Nat} {α:Type} {a:A} {e:α} {f:S->Option (S⊕A)} {g:Nat->Option A} {l:List α}
theorem aO (a b:Bool):lD a (some b)=some (a&&b):=by cases a<;>rfl
theorem bx (a b:Bool):IU a (some b)=some (a||b):=by cases a<;>rfl
theorem am (l:List α) (i:Nat):aV l (i:Int)=l[i]?:=by simp[aV]
theorem Ed {c:Option Unit} {m:Option R} (h:c=some ()):ew c m=m:=by rw[h];rfl
theorem KP (h:n<=137438953472):gq n=some ():=by simp[gq,h]
theorem aW (i:Nat) (h:i<9223372036854775807):IntKind.i64.wrap ((i:Int)+1)=((i+1:Nat):Int):=by rw[bk _ oM oM];simp
theorem nI (st:Nat->S) (n:Nat) (hs:∀ i,i<n->f (st i)=some (.inl (st (i+1)))) (he:f (st n)=some (.inr a)):bn f (st 0)=some a:=by
 have:∀ k,k<=n->bn f (st (n - k))=some a:=by
  intro k
  induction k with
  |zero=>intro _;rw[bS,Nat.sub_zero,he]
  |succ k ih=>
   intro hk
   rw[bS,hs (n - (k+1)) oM,show n - (k+1)+1=n - k by omega]
   exact ih oM
 have:=this n (Vs n)
 rwa[Wn] at this
theorem dO {s0:S} {k:A->Option R} {r:Option R} (h:bn f s0=some a) (hk:k a=r):(bn f s0).bind k=r:=by rw[h];exact hk
def tx {A:Type} (g:Nat->Option A):Nat->Nat->Option A
 |_,0=>none
 |i,n+1=>match g i with
  |some a=>some a
  |none=>tx g (i+1) n
theorem wX {A:Type} {g:Nat->Option A}:∀ (i n k:Nat),k<=n->(∀ j,i<=j->j<i+k->g j=none)->tx g i n=tx g (i+k) (n - k)
 |i,n,0,_,_=>by simp
 |i,0,k+1,h,_=>by omega
 |i,n+1,k+1,h,hz=>by
  have h1:=hz i oM oM
  simp only[tx,h1]
  rw[wX (i+1) n k oM (fun j hj X=>hz j oM oM)]
  congr 1<;>omega
theorem BC (h:∀ j,j<n->g j=none):tx g 0 n=none:=by
 rw[wX 0 n n oM (fun j _ hj=>h j oM),Wn];rfl
theorem BD {k:Nat} (hk:k<n) (hb:∀ j,j<k->g j=none) (ha:g k=some a):tx g 0 n=some a:=by
 rw[wX 0 n k oM (fun j _ hj=>hb j oM)]
 obtain⟨m,Z⟩:∃ m,n - k=m+1:=⟨n - k - 1,by omega⟩
 rw[Z,VD]
 simp only[tx,ha]
theorem o7 (g:Nat->Option A) (n:Nat):(tx g 0 n=none/\∀ j,j<n->g j=none)\/∃ k a,k<n/\(∀ j,j<k->g j=none)/\g k=some a/\tx g 0 n=some a:=by
 by_cases h:∃ k,k<n/\(g k).isSome=true
 ·have:∃ k,(k<n/\(g k).isSome=true)/\∀ j,j<k->¬ (j<n/\(g j).isSome=true):=by
   obtain⟨k,hk⟩:=h
   induction k using Nat.strongRecOn with
   |_ k ih=>
    by_cases hj:∃ j,j<k/\(j<n/\(g j).isSome=true)
    ·obtain⟨j,h1,h2⟩:=hj;exact ih j h1 h2
    ·exact⟨k,hk,fun j h1 h2=>hj ⟨j,h1,h2⟩⟩
  obtain⟨k,⟨h1,h2⟩,E⟩:=this
  obtain⟨a,ha⟩:=Wo.1 h2
  have hb:∀ j,j<k->g j=none:=fun j hj=>by
   have:=E j hj
   cases L:g j with
   |none=>rfl
   |some b=>exact absurd ⟨by omega,by simp[L]⟩ this
  exact .inr ⟨k,a,h1,hb,ha,BD h1 hb ha⟩
 ·have hn:∀ j,j<n->g j=none:=fun j hj=>by
   cases L:g j with
   |none=>rfl
   |some b=>exact absurd ⟨j,hj,by simp[L]⟩ h
  exact .inl ⟨BC hn,hn⟩
theorem sm {z:A} (st:Nat->S) (n:Nat) (g:Nat->Option A) (hs:∀ i,i<n->g i=none->f (st i)=some (.inl (st (i+1)))) (hx:∀ i a,i<n->g i=some a->f (st i)=some (.inr a)) (he:f (st n)=some (.inr z)):bn f (st 0)=some ((tx g 0 n).getD z):=by
 rcases o7 g n with⟨h1,h2⟩|⟨k,a,h1,h2,E,h4⟩
 ·rw[h1,W8]
  exact nI st n (fun i hi=>hs i hi (h2 i hi)) he
 ·rw[h4,Wi]
  exact nI st k (fun i hi=>hs i oM (h2 i hi)) (hx k a h1 E)
theorem je (h:l[i]?=some e):l.take (i+1)=l.take i++[e]:=by rw[Xz,h];rfl
theorem JS {β:Type} {g:β->α->β} {b:β} (h:l[i]?=some e):(l.take (i+1)).foldl g b=g ((l.take i).foldl g b) e:=by
 rw[je h,List.foldl_append];rfl
theorem dl (h:i<l.length):∃ e,l[i]?=some e:=⟨_,Vu h⟩
theorem aX (h:i<n):decide ((i:Int)<(n:Int))=true:=by simpa using h
theorem aB (n:Nat):decide ((n:Int)<(n:Int))=false:=by simp
end Go.Proofs.YtgmnipfafmphaaaGreatDoor

