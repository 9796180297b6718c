/-
  My text.
-/
import Derived.Test.YteaolfcegaidpaaGreatDoorSYEngRj
namespace Go.Proofs.YteaolfcegaidpaaGreatDoor
set_option linter.unusedSimpArgs false
set_option linter.unusedVariables false
open Go.RowKit
section
variable {P:Program} {c:Cx} {σ:St} {κ:Nat->Value} {φ:Nat->List Nat} {a:Act} {w:World}
end
def FP (k:IntKind) (b:Int):Option Unit:=if 0<=b/\b<=k.bits then some () else none
theorem pe {k:IntKind} {b:Int}:FP k b=some ()↔0<=b/\b<=k.bits:=by unfold FP;split<;>simp_all
section
variable {P:Program} {K:St->Prop} {sos:List SO} {s:Nat->SV} {h:Nat->Ch}
theorem G6 {R:Type} {r:R} {k k':IntKind} {a b:Int} {x y:SX} {dst:Nat} {kk:Option R} (hm:jV (FP k b) kk=some r) (hx:ev s x= .d (.int k a)) (hy:ev s y= .d (.int k' b))
  (hk:kk=some r->bh P K sos ⟨aH s dst (.d (.int k (a/2^b.toNat))),h⟩):bh P K (.r dst (.bin .shr x y)::sos) ⟨s,h⟩:=by
 cases he:FP k b with
 |none=>rw[he] at hm;cases hm
 |some u=>
  rw[he] at hm
  exact im (p:=0<=b/\b<=k.bits) (v:= .d (.int k (a/2^b.toNat))) (by by_cases hkk:k=k'<;>simp[rd,hx,hy,An,xU,hkk]) (pe.1 he) (hk hm)
theorem Ny {R:Type} {r:R} {k k':IntKind} {a b:Int} {x y:SX} {dst:Nat} {kk:Option R} (hm:jV (FP k b) kk=some r) (hx:ev s x= .d (.int k a)) (hy:ev s y= .d (.int k' b))
  (hk:kk=some r->bh P K sos ⟨aH s dst (.d (.int k (k.wrap (a * 2^b.toNat)))),h⟩):bh P K (.r dst (.bin .shl x y)::sos) ⟨s,h⟩:=by
 cases he:FP k b with
 |none=>rw[he] at hm;cases hm
 |some u=>
  rw[he] at hm
  exact im (p:=0<=b/\b<=k.bits) (v:= .d (.int k (k.wrap (a * 2^b.toNat)))) (by by_cases hkk:k=k'<;>simp[rd,hx,hy,An,xU,hkk]) (pe.1 he) (hk hm)
theorem yl {R:Type} {r:R} {Q:AX->St->Prop} {σ:St} (hm:(none:Option R)=some r):AW P .any Q σ:=by cases hm
end
