/-
  My text.
-/
import Derived.Test.YtgmnipfafmphaaaGreatDoorSZEngRj
namespace Go.Proofs.YtgmnipfafmphaaaGreatDoor
set_option linter.unusedSimpArgs false
set_option linter.unusedVariables false
open Go.RowKit
section
variable {P:Program} {c:Cx} {σ:St} {κ:Nat->Value} {φ:Nat->List Nat} {a:Act} {w:World}
end
theorem uc {α:Type} {f:α->DV}:∀ (l:List α),SV.frzs (FI f l)=some (l.map f)
 |[]=>rfl
 |x::l=>by
  have:=uc (f:=f) l
  simp only[FI,Lh,SV.frzs,SV.frz] at this⊢
  rw[this]
def Jr (k:IntKind) (b:Int):Option Unit:=if 0<=b/\b<=k.bits then some () else none
theorem Fd {k:IntKind} {b:Int}:Jr k b=some ()↔0<=b/\b<=k.bits:=by unfold Jr;split<;>simp_all
attribute [push_cast] uc
section
variable {P:Program} {K:St->Prop} {sos:List SO} {s:Nat->SV} {h:Nat->Ch}
theorem JP {R:Type} {r:R} {k k':IntKind} {a b:Int} {x y:SX} {dst:Nat} {kk:Option R} (hm:mi (Jr k b) kk=some r) (hx:ev s x= .d (.int k a)) (hy:ev s y= .d (.int k' b))
  (hk:kk=some r->aA P K sos ⟨ak s dst (.d (.int k (a/2^b.toNat))),h⟩):aA P K (.r dst (.bin .shr x y)::sos) ⟨s,h⟩:=by
 cases he:Jr k b with
 |none=>rw[he] at hm;cases hm
 |some u=>
  rw[he] at hm
  exact j1 (p:=0<=b/\b<=k.bits) (v:= .d (.int k (a/2^b.toNat))) (by by_cases hkk:k=k'<;>simp[rd,hx,hy,uw,qq,hkk]) (Fd.1 he) (hk hm)
end
end Go.Proofs.YtgmnipfafmphaaaGreatDoor

