/-
  My text.
-/
import Derived.Test.YteaolfcegaidpaaGreatDoorSXEngX
namespace Go.Proofs.YteaolfcegaidpaaGreatDoor
set_option linter.unusedSimpArgs false
set_option linter.unusedVariables false
open Go.RowKit
theorem aO (a b:Bool):ov a (some b)=some (a&&b):=by cases a<;>rfl
theorem bz (a b:Bool):BE a (some b)=some (a||b):=by cases a<;>rfl
theorem aw {α:Type} (l:List α) (i:Nat):b_ l (i:Int)=l[i]?:=by simp[b_]
theorem bU {R:Type} {c:Option Unit} {m:Option R} (h:c=some ()):lS c m=m:=by rw[h];rfl
theorem Jq {n:Nat} (h:n<=137438953472):sN n=some ():=by simp[sN,h]
theorem mb {S R:Type} (r:R):dy (S:=S) (some r)=some (.inr r):=rfl
theorem bN (i:Nat) (h:i<9223372036854775807):IntKind.i64.wrap ((i:Int)+1)=((i+1:Nat):Int):=by rw[ge _ oM oM];simp
theorem EY {S A:Type} {f:S->Option (S⊕A)} {a:A} (st:Nat->S) (n:Nat) (hs:∀ i,i<n->f (st i)=some (.inl (st (i+1)))) (he:f (st n)=some (.inr a)):dD f (st 0)=some a:=by
 have:∀ k,k<=n->dD f (st (n - k))=some a:=by
  intro k
  induction k with
  |zero=>intro _;rw[ck,Nat.sub_zero,he]
  |succ k ih=>
   intro hk
   rw[ck,hs (n - (k+1)) oM,show n - (k+1)+1=n - k by omega]
   exact ih oM
 have:=this n (Me n)
 rwa[Nat.sub_self] at this
theorem dj {S A R:Type} {f:S->Option (S⊕A)} {s0:S} {k:A->Option R} {a:A} {r:Option R} (h:dD f s0=some a) (hk:k a=r):(dD f s0).bind k=r:=by rw[h];exact hk
theorem cP {α:Type} {l:List α} {i:Nat} {e:α} (h:l[i]?=some e):l.take (i+1)=l.take i++[e]:=by rw[List.take_add_one,h];rfl
theorem eb {α:Type} {l:List α} {i:Nat} (h:i<l.length):∃ e,l[i]?=some e:=⟨_,Mi h⟩
theorem bp {i n:Nat} (h:i<n):decide ((i:Int)<(n:Int))=true:=by simpa using h
theorem an (n:Nat):decide ((n:Int)<(n:Int))=false:=by simp
end Go.Proofs.YteaolfcegaidpaaGreatDoor

