/-
  My text.
-/
import Derived.Test.YtgocgdgknpdknaaGreatDoorSXEngV
namespace Go.Proofs.YtgocgdgknpdknaaGreatDoor
set_option linter.unusedSimpArgs false
set_option linter.unusedVariables false
open Go.RowKit
def ft {K V:Type} (ke:K->DV) (ve:V->SV) (W:List (K×V)):List (DV×SV):=W.map fun p=>(ke p.1,ve p.2)
def n7 {K V:Type} [DecidableEq K]:List (K×V)->K->Option V
 |[],_=>none
 |p::W,k=>if k=p.1 then some p.2 else n7 W k
def mh {K V:Type} [DecidableEq K]:List (K×V)->K->V->List (K×V)
 |[],k,v=>[(k,v)]
 |p::W,k,v=>if k=p.1 then(k,v)::W else p::mh W k v
def IX {α:Type} (e:Nat) (ms:List bQ) (row:α->List DV) (l:List α):SV:= .own (.sl e ms) (.slice (l.map row))
section
variable {V:Type} {ve:V->SV}
theorem zh (a b:List UInt8):vK (.str a) (.str b)=decide (a=b):=rfl
theorem vi:∀ (W:List (List UInt8×V)) (k:List UInt8),oj (ft .str ve W) (.str k)=(n7 W k).map ve
 |[],_=>rfl
 |p::W,k=>by
  simp only[ft,JZ,oj,zh,n7]
  by_cases h:k=p.1
  ·simp[h]
  ·simp only[h,Lh,KG];exact vi W k
theorem vj:∀ (W:List (List UInt8×V)) (k:List UInt8) (v:V),ng (ft .str ve W) (.str k) (ve v)=ft .str ve (mh W k v)
 |[],_,_=>rfl
 |p::W,k,v=>by
  simp only[ft,JZ,ng,zh,mh]
  by_cases h:k=p.1
  ·simp[h]
  ·simp only[h,Lh,KG,JZ]
   have:=vj W k v
   simp only[ft] at this
   simp[this]
end
theorem Bq {K V:Type} {ke:K->DV} {ve:V->SV} (id:Nat) (dv:DV) (hv:∀ v,eI id dv (ve v)=ve v):∀ (W:List (K×V)),zF id dv (ft ke ve W)=ft ke ve W
 |[]=>rfl
 |p::W=>by simp only[ft,JZ,zF,hv];rw[show W.map (fun p=>(ke p.1,ve p.2))=ft ke ve W from rfl,Bq id dv hv W]
section
variable {P:Program} {s:Nat->SV} {h:Nat->Ch} {K:St->Prop} {sos:List SO} {α:Type} {row:α->List DV}
theorem GI {dst id:Nat} {z v:SV} {m k:SX} {kv:List (DV×SV)} {key:List UInt8} (hx:ev s m= .mp id) (hk:ev s k= .d (.str key)) (hh:h id= .map .str kv) (hv:k_ kv (.str key) z=v) (hn:v.noOwn=true) (hrest:aR P K sos ⟨aI s dst v,h⟩):aR P K (.r dst (.look .str z false m k)::sos) ⟨s,h⟩:=by
 refine iN (p:=KK.str=KK.str/\KK.fits .str (.str key)=true/\v.noOwn=true) (v:=v) ?_ ⟨rfl,rfl,hn⟩ hrest
 simp only[rd,hx,hk,hh,hv];rfl
end
section
variable {P:Program} {s:Nat->SV} {h:Nat->Ch} {K:St->Prop} {sos:List SO} {α:Type} {row:α->List DV}
end
theorem Ib {α:Type} {row:α->List DV}:([]:List (List SV))=eg row ([]:List α):=rfl
theorem GJ {α:Type} {row:α->List DV} {r:List SV} {rs:List (List SV)} {a:α} {l:List α} (h1:r=dR (row a)) (h2:rs=eg row l):r::rs=eg row (a::l):=D9 h1 h2
theorem Jr {n:List UInt8}:[SV.d (.str n)]=dR (eK n):=rfl
theorem Ea {K V:Type} {kk:KK} {ke:K->DV} {ve:V->SV}:ww (.map kk []) (.map kk (ft ke ve [])):=rfl
