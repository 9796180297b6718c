/-
  My text.
-/
import Derived.Test.YtgmnipfafmphaaaGreatDoorSYEngX
namespace Go.Proofs.YtgmnipfafmphaaaGreatDoor
set_option linter.unusedSimpArgs false
set_option linter.unusedVariables false
open Go.RowKit
variable {A R S:Type} {i n:Nat} {α:Type} {a:A} {f:S->Option (S⊕A)} {g:Nat->Option A} {l:List α}
theorem cx (a b:Bool):m8 a (some b)=some (a&&b):=by cases a<;>rfl
theorem bT (a b:Bool):LG a (some b)=some (a||b):=by cases a<;>rfl
theorem aw (l:List α) (i:Nat):b4 l (i:Int)=l[i]?:=by simp[b4]
theorem BJ {c:Option Unit} {m:Option R} (h:c=some ()):mh c m=m:=by rw[h];rfl
theorem IB (h:n<=137438953472):lG n=some ():=by simp[lG,h]
theorem bB (i:Nat) (h:i<9223372036854775807):IntKind.i64.wrap ((i:Int)+1)=((i+1:Nat):Int):=by rw[bh _ oM oM];simp
theorem jm (st:Nat->S) (n:Nat) (hs:∀ i,i<n->f (st i)=some (.inl (st (i+1)))) (he:f (st n)=some (.inr a)):bc f (st 0)=some a:=by
 have:∀ k,k<=n->bc f (st (n - k))=some a:=by
  intro k
  induction k with
  |zero=>intro _;rw[b3,Nat.sub_zero,he]
  |succ k ih=>
   intro hk
   rw[b3,hs (n - (k+1)) oM,show n - (k+1)+1=n - k by omega]
   exact ih oM
 have:=this n (SZ n)
 rwa[T9] at this
theorem co {s0:S} {k:A->Option R} {r:Option R} (h:bc f s0=some a) (hk:k a=r):(bc f s0).bind k=r:=by rw[h];exact hk
def pA {A:Type} (g:Nat->Option A):Nat->Nat->Option A
 |_,0=>none
 |i,n+1=>match g i with
  |some a=>some a
  |none=>pA g (i+1) n
theorem tL {A:Type} {g:Nat->Option A}:∀ (i n k:Nat),k<=n->(∀ j,i<=j->j<i+k->g j=none)->pA g i n=pA g (i+k) (n - k)
 |i,n,0,_,_=>by simp
 |i,0,k+1,h,_=>by omega
 |i,n+1,k+1,h,hz=>by
  have h1:=hz i oM oM
  simp only[pA,h1]
  rw[tL (i+1) n k oM (fun j hj r3=>hz j oM oM)]
  congr 1<;>omega
theorem yM (h:∀ j,j<n->g j=none):pA g 0 n=none:=by
 rw[tL 0 n n oM (fun j _ hj=>h j oM),T9];rfl
theorem yN {k:Nat} (hk:k<n) (hb:∀ j,j<k->g j=none) (ha:g k=some a):pA g 0 n=some a:=by
 rw[tL 0 n k oM (fun j _ hj=>hb j oM)]
 obtain⟨m,Z⟩:∃ m,n - k=m+1:=⟨n - k - 1,by omega⟩
 rw[Z,Tx]
 simp only[pA,ha]
theorem l5 (g:Nat->Option A) (n:Nat):(pA g 0 n=none/\∀ j,j<n->g j=none)\/∃ k a,k<n/\(∀ j,j<k->g j=none)/\g k=some a/\pA g 0 n=some a:=by
 by_cases h:∃ k,k<n/\(g k).isSome=true
 ·have:∃ k,(k<n/\(g k).isSome=true)/\∀ j,j<k->¬ (j<n/\(g j).isSome=true):=by
   obtain⟨k,hk⟩:=h
   induction k using Nat.strongRecOn with
   |_ k ih=>
    by_cases hj:∃ j,j<k/\(j<n/\(g j).isSome=true)
    ·obtain⟨j,h1,h2⟩:=hj;exact ih j h1 h2
    ·exact⟨k,hk,fun j h1 h2=>hj ⟨j,h1,h2⟩⟩
  obtain⟨k,⟨h1,h2⟩,E⟩:=this
  obtain⟨a,ha⟩:=T0.1 h2
  have hb:∀ j,j<k->g j=none:=fun j hj=>by
   have:=E j hj
   cases hg:g j with
   |none=>rfl
   |some b=>exact absurd ⟨by omega,by simp[hg]⟩ this
  exact .inr ⟨k,a,h1,hb,ha,yN h1 hb ha⟩
 ·have hn:∀ j,j<n->g j=none:=fun j hj=>by
   cases hg:g j with
   |none=>rfl
   |some b=>exact absurd ⟨j,hj,by simp[hg]⟩ h
  exact .inl ⟨yM hn,hn⟩
theorem oE {z:A} (st:Nat->S) (n:Nat) (g:Nat->Option A) (hs:∀ i,i<n->g i=none->f (st i)=some (.inl (st (i+1)))) (hx:∀ i a,i<n->g i=some a->f (st i)=some (.inr a)) (he:f (st n)=some (.inr z)):bc f (st 0)=some ((pA g 0 n).getD z):=by
 rcases l5 g n with⟨h1,h2⟩|⟨k,a,h1,h2,E,h4⟩
 ·rw[h1,UL]
  exact jm st n (fun i hi=>hs i hi (h2 i hi)) he
 ·rw[h4,TU]
  exact jm st k (fun i hi=>hs i oM (h2 i hi)) (hx k a h1 E)
theorem nW {e:α} (h:l[i]?=some e):l.take (i+1)=l.take i++[e]:=by rw[List.take_add_one,h];rfl
theorem eF (h:i<l.length):∃ e,l[i]?=some e:=⟨_,S0 h⟩
theorem br (h:i<n):decide ((i:Int)<(n:Int))=true:=by simpa using h
theorem aB (n:Nat):decide ((n:Int)<(n:Int))=false:=by simp
end Go.Proofs.YtgmnipfafmphaaaGreatDoor

