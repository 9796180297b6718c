/-
  My text.
-/
import Derived.Test.YtgmnipfafmphaaaGreatDoorSXEngRl
namespace Go.Proofs.YtgmnipfafmphaaaGreatDoor
set_option linter.unusedSimpArgs false
set_option linter.unusedVariables false
open Go.RowKit
variable {K:St->Prop} {P:Program} {R:List (List SV)} {cells:List SV} {e:Nat} {h:Nat->Ch} {i id off:Nat} {s:Nat->SV} {sos:List SO} {sz:Nat} {x:SV} {y:SX}
theorem RX {t:List UInt8} (h:gb x (.d (.str t))):ae [x] (bA [.sh] (dr t)):=ae.consS h ae.nil
theorem GN {β:Type} {H:β->List DV} {ms:List bH} {y:List β} (h:Hh x (.own (.sl e ms) (.slice (y.map H)))):ae [x] (bA [.sl e ms] (hY H y)):=ae.cons h ae.nil
theorem JB {n dst:Nat} {cs:List SV} (Y:ev s y= .vref id sz i off) (hh:h id= .vec e sz (R.set i cells)) (hi:i<R.length) (hc:(cells.drop off).take n=cs) (r2:SV.noOwns cs=true) (hl:off+n<=cells.length) (hk:aI P K sos ⟨ap s dst (.agg cs),h⟩):aI P K (.r dst (.ldA n y)::sos) ⟨s,h⟩:=by
 have L:(R.set i cells)[i]?=some cells:=Wg hi
 refine jj (p:=sz=sz/\off+n<=cells.length) (v:= .agg cs) ?_ ⟨rfl,hl⟩ hk
 simp only[rd,Y,hh,L,hc,r2,VW]
theorem PN {c:List SV} {v0:SV} {v:SX} (Y:ev s y= .vref id sz i off) (hv:(ev s v).cells?=some [v0]) (hh:h id= .vec e sz (R.set i cells)) (hi:i<R.length) (ho:off<cells.length) (hs:cells.set off v0=c) (hk:aI P K sos ⟨s,ap h id (.vec e sz (R.set i c))⟩):aI P K (.w 0 (.st 1 y v)::sos) ⟨s,h⟩:=by
 subst hs
 exact Sg Y hv hh hi ho hk
