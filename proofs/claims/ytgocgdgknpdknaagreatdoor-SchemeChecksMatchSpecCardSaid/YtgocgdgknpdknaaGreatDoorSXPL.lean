/-
  My text.
-/
import Derived.Test.YtgocgdgknpdknaaGreatDoorSXEngX
namespace Go.Proofs.YtgocgdgknpdknaaGreatDoor
set_option linter.unusedSimpArgs false
set_option linter.unusedVariables false
open Go.RowKit
theorem aW (a b:Bool):mU a (some b)=some (a&&b):=by cases a<;>rfl
theorem bG (a b:Bool):z8 a (some b)=some (a||b):=by cases a<;>rfl
theorem aB {α:Type} (l:List α) (i:Nat):cx l (i:Int)=l[i]?:=by simp[cx]
theorem cd {R:Type} {c:Option Unit} {m:Option R} (h:c=some ()):jg c m=m:=by rw[h];rfl
theorem GS {n:Nat} (h:n<=137438953472):qx n=some ():=by simp[qx,h]
theorem bY (i:Nat) (h:i<9223372036854775807):IntKind.i64.wrap ((i:Int)+1)=((i+1:Nat):Int):=by rw[eJ _ oM oM];simp
theorem CE {S A:Type} {f:S->Option (S⊕A)} {a:A} (st:Nat->S) (n:Nat) (hs:∀ i,i<n->f (st i)=some (.inl (st (i+1)))) (he:f (st n)=some (.inr a)):cR f (st 0)=some a:=by
 have:∀ k,k<=n->cR f (st (n - k))=some a:=by
  intro k
  induction k with
  |zero=>intro _;rw[bM,Nat.sub_zero,he]
  |succ k ih=>
   intro hk
   rw[bM,hs (n - (k+1)) oM,show n - (k+1)+1=n - k by omega]
   exact ih oM
 have:=this n (JW n)
 rwa[LK] at this
theorem b0 {S A R:Type} {f:S->Option (S⊕A)} {s0:S} {k:A->Option R} {a:A} {r:Option R} (h:cR f s0=some a) (hk:k a=r):(cR f s0).bind k=r:=by rw[h];exact hk
theorem cQ {α:Type} {l:List α} {i:Nat} {e:α} (h:l[i]?=some e):l.take (i+1)=l.take i++[e]:=by rw[List.take_add_one,h];rfl
theorem dI {α:Type} {l:List α} {i:Nat} (h:i<l.length):∃ e,l[i]?=some e:=⟨_,J0 h⟩
theorem bl {i n:Nat} (h:i<n):decide ((i:Int)<(n:Int))=true:=by simpa using h
theorem ak (n:Nat):decide ((n:Int)<(n:Int))=false:=by simp
end Go.Proofs.YtgocgdgknpdknaaGreatDoor

