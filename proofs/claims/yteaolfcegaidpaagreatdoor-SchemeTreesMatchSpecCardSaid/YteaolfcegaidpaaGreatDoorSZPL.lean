/-
  My text.
-/
import Derived.Test.YteaolfcegaidpaaGreatDoorSZEngX
namespace Go.Proofs.YteaolfcegaidpaaGreatDoor
set_option linter.unusedSimpArgs false
set_option linter.unusedVariables false
open Go.RowKit
variable {A R S:Type} {i n:Nat} {α:Type} {a:A} {f:S->Option (S⊕A)} {l:List α}
theorem aY (a b:Bool):hY a (some b)=some (a&&b):=by cases a<;>rfl
theorem bR (a b:Bool):DY a (some b)=some (a||b):=by cases a<;>rfl
theorem ap (l:List α) (i:Nat):cm l (i:Int)=l[i]?:=by simp[cm]
theorem eq {c:Option Unit} {m:Option R} (h:c=some ()):iZ c m=m:=by rw[h];rfl
theorem OY (h:n<=137438953472):sf n=some ():=by simp[sf,h]
theorem Ln (r:R):cb (S:=S) (some r)=some (.inr r):=rfl
theorem bQ (i:Nat) (h:i<9223372036854775807):IntKind.i64.wrap ((i:Int)+1)=((i+1:Nat):Int):=by rw[bp _ oM oM];simp
theorem ta (st:Nat->S) (n:Nat) (hs:∀ i,i<n->f (st i)=some (.inl (st (i+1)))) (J:f (st n)=some (.inr a)):bJ f (st 0)=some a:=by
 have:∀ k,k<=n->bJ f (st (n - k))=some a:=by
  intro k
  induction k with
  |zero=>intro _;rw[bV,Nat.sub_zero,J]
  |succ k ih=>
   intro hk
   rw[bV,hs (n - (k+1)) oM,show n - (k+1)+1=n - k by omega]
   exact ih oM
 have:=this n (S0 n)
 rwa[Va] at this
theorem b6 {s0:S} {k:A->Option R} {r:Option R} (h:bJ f s0=some a) (hk:k a=r):(bJ f s0).bind k=r:=by rw[h];exact hk
theorem eu {e:α} (h:l[i]?=some e):l.take (i+1)=l.take i++[e]:=by rw[List.take_add_one,h];rfl
theorem dY (h:i<l.length):∃ e,l[i]?=some e:=⟨_,S3 h⟩
theorem bg (h:i<n):decide ((i:Int)<(n:Int))=true:=by simpa using h
theorem ao (n:Nat):decide ((n:Int)<(n:Int))=false:=by simp
end Go.Proofs.YteaolfcegaidpaaGreatDoor

