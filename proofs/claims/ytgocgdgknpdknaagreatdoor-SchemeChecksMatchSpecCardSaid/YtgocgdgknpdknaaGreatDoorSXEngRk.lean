/-
  My text.
-/
import Derived.Test.YtgocgdgknpdknaaGreatDoorSXEngRj
namespace Go.Proofs.YtgocgdgknpdknaaGreatDoor
set_option linter.unusedSimpArgs false
set_option linter.unusedVariables false
open Go.RowKit
section
variable {P:Program} {c:Cx} {σ:St} {κ:Nat->Value} {φ:Nat->List Nat} {a:Act} {w:World}
end
def C2 (k:IntKind) (b:Int):Option Unit:=if 0<=b/\b<=k.bits then some () else none
theorem lS {k:IntKind} {b:Int}:C2 k b=some ()↔0<=b/\b<=k.bits:=by unfold C2;split<;>simp_all
section
variable {P:Program} {K:St->Prop} {sos:List SO} {s:Nat->SV} {h:Nat->Ch}
theorem Ff {R:Type} {r:R} {k k':IntKind} {a b:Int} {x y:SX} {dst:Nat} {kk:Option R} (hm:jg (C2 k b) kk=some r) (hx:ev s x= .d (.int k a)) (hy:ev s y= .d (.int k' b))
  (hk:kk=some r->aR P K sos ⟨aI s dst (.d (.int k (a/2^b.toNat))),h⟩):aR P K (.r dst (.bin .shr x y)::sos) ⟨s,h⟩:=by
 cases he:C2 k b with
 |none=>rw[he] at hm;cases hm
 |some u=>
  rw[he] at hm
  exact iN (p:=0<=b/\b<=k.bits) (v:= .d (.int k (a/2^b.toNat))) (by by_cases hkk:k=k'<;>simp[rd,hx,hy,wo,tX,hkk]) (lS.1 he) (hk hm)
theorem IL {R:Type} {r:R} {k k':IntKind} {a b:Int} {x y:SX} {dst:Nat} {kk:Option R} (hm:jg (C2 k b) kk=some r) (hx:ev s x= .d (.int k a)) (hy:ev s y= .d (.int k' b))
  (hk:kk=some r->aR P K sos ⟨aI s dst (.d (.int k (k.wrap (a * 2^b.toNat)))),h⟩):aR P K (.r dst (.bin .shl x y)::sos) ⟨s,h⟩:=by
 cases he:C2 k b with
 |none=>rw[he] at hm;cases hm
 |some u=>
  rw[he] at hm
  exact iN (p:=0<=b/\b<=k.bits) (v:= .d (.int k (k.wrap (a * 2^b.toNat)))) (by by_cases hkk:k=k'<;>simp[rd,hx,hy,wo,tX,hkk]) (lS.1 he) (hk hm)
theorem uh {R:Type} {r:R} {Q:AX->St->Prop} {σ:St} (hm:(none:Option R)=some r):AW P .any Q σ:=by cases hm
end
