/-
  My text.
-/
import Derived.Test.YteaolfcegaidpaaGreatDoorSZEngRj
namespace Go.Proofs.YteaolfcegaidpaaGreatDoor
set_option linter.unusedSimpArgs false
set_option linter.unusedVariables false
open Go.RowKit
variable {R:Type} {b:Int} {dst:Nat} {k k':IntKind} {x y:SX} {kk:Option R} {r:R}
def IE (k:IntKind) (b:Int):Option Unit:=if 0<=b/\b<=k.bits then some () else none
theorem pR:IE k b=some ()↔0<=b/\b<=k.bits:=by unfold IE;split<;>simp_all
section
variable {P:Program} {K:St->Prop} {sos:List SO} {s:Nat->SV} {h:Nat->Ch}
theorem JW {a:Int} (Z:iZ (IE k b) kk=some r) (hx:ev s x= .d (.int k a)) (hy:ev s y= .d (.int k' b)) (hk:kk=some r->a6 P K sos ⟨aD s dst (.d (.int k (a/2^b.toNat))),h⟩):a6 P K (.r dst (.bin .shr x y)::sos) ⟨s,h⟩:=by
 cases J:IE k b with
 |none=>rw[J] at Z;cases Z
 |some u=>
  rw[J] at Z
  exact fi (p:=0<=b/\b<=k.bits) (v:= .d (.int k (a/2^b.toNat))) (by by_cases i:k=k'<;>simp[rd,hx,hy,zN,wO,i]) (pR.1 J) (hk Z)
theorem Rn {a:Int} (Z:iZ (IE k b) kk=some r) (hx:ev s x= .d (.int k a)) (hy:ev s y= .d (.int k' b)) (hk:kk=some r->a6 P K sos ⟨aD s dst (.d (.int k (k.wrap (a * 2^b.toNat)))),h⟩):a6 P K (.r dst (.bin .shl x y)::sos) ⟨s,h⟩:=by
 cases J:IE k b with
 |none=>rw[J] at Z;cases Z
 |some u=>
  rw[J] at Z
  exact fi (p:=0<=b/\b<=k.bits) (v:= .d (.int k (k.wrap (a * 2^b.toNat)))) (by by_cases i:k=k'<;>simp[rd,hx,hy,zN,wO,i]) (pR.1 J) (hk Z)
theorem DF {Q:AX->St->Prop} {σ:St} (Z:(none:Option R)=some r):AW P .any Q σ:=by cases Z
end
