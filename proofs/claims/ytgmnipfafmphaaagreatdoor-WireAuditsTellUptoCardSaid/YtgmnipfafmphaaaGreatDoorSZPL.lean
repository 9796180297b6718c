/-
  My text.
-/
import Derived.Test.YtgmnipfafmphaaaGreatDoorSZEngX
namespace Go.Proofs.YtgmnipfafmphaaaGreatDoor
set_option linter.unusedSimpArgs false
set_option linter.unusedVariables false
open Go.RowKit
theorem ep (a b:Bool):ot a (some b)=some (a&&b):=by cases a<;>rfl
theorem eo (a b:Bool):Ii a (some b)=some (a||b):=by cases a<;>rfl
theorem aW {α:Type} (l:List α) (i:Nat):cO l (i:Int)=l[i]?:=by simp[cO]
theorem xa {R:Type} {c:Option Unit} {m:Option R} (h:c=some ()):mi c m=m:=by rw[h];rfl
theorem CY {n:Nat} (h:n<=137438953472):mB n=some ():=by simp[mB,h]
theorem ge (i:Nat) (h:i<9223372036854775807):IntKind.i64.wrap ((i:Int)+1)=((i+1:Nat):Int):=by rw[aZ _ oM oM];simp
theorem n0 {S A:Type} {f:S->Option (S⊕A)} {a:A} (st:Nat->S) (n:Nat) (hs:∀ i,i<n->f (st i)=some (.inl (st (i+1)))) (he:f (st n)=some (.inr a)):bg f (st 0)=some a:=by
 have:∀ k,k<=n->bg f (st (n - k))=some a:=by
  intro k
  induction k with
  |zero=>intro _;rw[cC,Nat.sub_zero,he]
  |succ k ih=>
   intro hk
   rw[cC,hs (n - (k+1)) oM,show n - (k+1)+1=n - k by omega]
   exact ih oM
 have:=this n (K9 n)
 rwa[MZ] at this
theorem kx {S A R:Type} {f:S->Option (S⊕A)} {s0:S} {k:A->Option R} {a:A} {r:Option R} (h:bg f s0=some a) (hk:k a=r):(bg f s0).bind k=r:=by rw[h];exact hk
def mL {A:Type} (g:Nat->Option A):Nat->Nat->Option A
 |_,0=>none
 |i,n+1=>match g i with
  |some a=>some a
  |none=>mL g (i+1) n
theorem pM {A:Type} {g:Nat->Option A}:∀ (i n k:Nat),k<=n->(∀ j,i<=j->j<i+k->g j=none)->mL g i n=mL g (i+k) (n - k)
 |i,n,0,_,_=>by simp
 |i,0,k+1,h,_=>by omega
 |i,n+1,k+1,h,hz=>by
  have h1:=hz i oM oM
  simp only[mL,h1]
  rw[pM (i+1) n k oM (fun j hj hj'=>hz j oM oM)]
  congr 1<;>omega
theorem Bj {A:Type} {g:Nat->Option A} {n:Nat} (h:∀ j,j<n->g j=none):mL g 0 n=none:=by
 rw[pM 0 n n oM (fun j _ hj=>h j oM),MZ];rfl
theorem Bk {A:Type} {g:Nat->Option A} {n k:Nat} {a:A} (hk:k<n) (hb:∀ j,j<k->g j=none) (ha:g k=some a):mL g 0 n=some a:=by
 rw[pM 0 n k oM (fun j _ hj=>hb j oM)]
 obtain⟨m,hm⟩:∃ m,n - k=m+1:=⟨n - k - 1,by omega⟩
 rw[hm,LF]
 simp only[mL,ha]
theorem jU {A:Type} (g:Nat->Option A) (n:Nat):(mL g 0 n=none/\∀ j,j<n->g j=none)\/∃ k a,k<n/\(∀ j,j<k->g j=none)/\g k=some a/\mL g 0 n=some a:=by
 by_cases h:∃ k,k<n/\(g k).isSome=true
 ·have:∃ k,(k<n/\(g k).isSome=true)/\∀ j,j<k->¬ (j<n/\(g j).isSome=true):=by
   obtain⟨k,hk⟩:=h
   induction k using Nat.strongRecOn with
   |_ k ih=>
    by_cases hj:∃ j,j<k/\(j<n/\(g j).isSome=true)
    ·obtain⟨j,h1,h2⟩:=hj;exact ih j h1 h2
    ·exact⟨k,hk,fun j h1 h2=>hj ⟨j,h1,h2⟩⟩
  obtain⟨k,⟨h1,h2⟩,h3⟩:=this
  obtain⟨a,ha⟩:=L2.1 h2
  have hb:∀ j,j<k->g j=none:=fun j hj=>by
   have:=h3 j hj
   cases hg:g j with
   |none=>rfl
   |some b=>exact absurd ⟨by omega,by simp[hg]⟩ this
  exact .inr ⟨k,a,h1,hb,ha,Bk h1 hb ha⟩
 ·have hn:∀ j,j<n->g j=none:=fun j hj=>by
   cases hg:g j with
   |none=>rfl
   |some b=>exact absurd ⟨j,hj,by simp[hg]⟩ h
  exact .inl ⟨Bj hn,hn⟩
theorem n7 {S A:Type} {f:S->Option (S⊕A)} {z:A} (st:Nat->S) (n:Nat) (g:Nat->Option A) (hs:∀ i,i<n->g i=none->f (st i)=some (.inl (st (i+1)))) (hx:∀ i a,i<n->g i=some a->f (st i)=some (.inr a)) (he:f (st n)=some (.inr z)):bg f (st 0)=some ((mL g 0 n).getD z):=by
 rcases jU g n with⟨h1,h2⟩|⟨k,a,h1,h2,h3,h4⟩
 ·rw[h1,ML]
  exact n0 st n (fun i hi=>hs i hi (h2 i hi)) he
 ·rw[h4,L9]
  exact n0 st k (fun i hi=>hs i oM (h2 i hi)) (hx k a h1 h3)
theorem lz {α:Type} {l:List α} {i:Nat} {e:α} (h:l[i]?=some e):l.take (i+1)=l.take i++[e]:=by rw[List.take_add_one,h];rfl
theorem eH {α:Type} {l:List α} {i:Nat} (h:i<l.length):∃ e,l[i]?=some e:=⟨_,K6 h⟩
theorem eu {i n:Nat} (h:i<n):decide ((i:Int)<(n:Int))=true:=by simpa using h
theorem bm (n:Nat):decide ((n:Int)<(n:Int))=false:=by simp
end Go.Proofs.YtgmnipfafmphaaaGreatDoor

