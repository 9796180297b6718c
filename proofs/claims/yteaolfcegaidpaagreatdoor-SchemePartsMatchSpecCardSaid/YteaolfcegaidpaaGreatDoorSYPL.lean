/-
  My text.
-/
import Derived.Test.YteaolfcegaidpaaGreatDoorSYEngX
namespace Go.Proofs.YteaolfcegaidpaaGreatDoor
set_option linter.unusedSimpArgs false
set_option linter.unusedVariables false
open Go.RowKit
theorem bP (a b:Bool):kn a (some b)=some (a&&b):=by cases a<;>rfl
theorem cX (a b:Bool):Dl a (some b)=some (a||b):=by cases a<;>rfl
theorem av {α:Type} (l:List α) (i:Nat):dg l (i:Int)=l[i]?:=by simp[dg]
theorem ey {R:Type} {c:Option Unit} {m:Option R} (h:c=some ()):jV c m=m:=by rw[h];rfl
theorem Lz {n:Nat} (h:n<=137438953472):tu n=some ():=by simp[tu,h]
theorem Ik {S R:Type} (r:R):cS (S:=S) (some r)=some (.inr r):=rfl
theorem cG (i:Nat) (h:i<9223372036854775807):IntKind.i64.wrap ((i:Int)+1)=((i+1:Nat):Int):=by rw[bn _ oM oM];simp
theorem GE {S A:Type} {f:S->Option (S⊕A)} {a:A} (st:Nat->S) (n:Nat) (hs:∀ i,i<n->f (st i)=some (.inl (st (i+1)))) (he:f (st n)=some (.inr a)):bx f (st 0)=some a:=by
 have:∀ k,k<=n->bx f (st (n - k))=some a:=by
  intro k
  induction k with
  |zero=>intro _;rw[ct,Nat.sub_zero,he]
  |succ k ih=>
   intro hk
   rw[ct,hs (n - (k+1)) oM,show n - (k+1)+1=n - k by omega]
   exact ih oM
 have:=this n (OH n)
 rwa[QG] at this
theorem dS {S A R:Type} {f:S->Option (S⊕A)} {s0:S} {k:A->Option R} {a:A} {r:Option R} (h:bx f s0=some a) (hk:k a=r):(bx f s0).bind k=r:=by rw[h];exact hk
theorem ng {α:Type} {l:List α} {i:Nat} {e:α} (h:l[i]?=some e):l.take (i+1)=l.take i++[e]:=by rw[List.take_add_one,h];rfl
theorem jw {α:Type} {l:List α} {i:Nat} (h:i<l.length):∃ e,l[i]?=some e:=⟨_,OJ h⟩
theorem bH {i n:Nat} (h:i<n):decide ((i:Int)<(n:Int))=true:=by simpa using h
theorem ar (n:Nat):decide ((n:Int)<(n:Int))=false:=by simp
end Go.Proofs.YteaolfcegaidpaaGreatDoor

