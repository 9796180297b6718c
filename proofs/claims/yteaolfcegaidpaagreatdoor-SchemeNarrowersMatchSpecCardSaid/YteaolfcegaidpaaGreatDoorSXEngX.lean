/-
  My text.
-/
import Derived.Test.YteaolfcegaidpaaGreatDoorSXEngV
namespace Go.Proofs.YteaolfcegaidpaaGreatDoor
set_option linter.unusedSimpArgs false
set_option linter.unusedVariables false
open Go.RowKit
def ex {K V:Type} (ke:K->DV) (ve:V->SV) (W:List (K×V)):List (DV×SV):=W.map fun p=>(ke p.1,ve p.2)
def jB {K V:Type} [DecidableEq K]:List (K×V)->K->Option V
 |[],_=>none
 |p::W,k=>if k=p.1 then some p.2 else jB W k
def kA {K V:Type} [DecidableEq K]:List (K×V)->K->V->List (K×V)
 |[],k,v=>[(k,v)]
 |p::W,k,v=>if k=p.1 then(k,v)::W else p::kA W k v
def Ll {α:Type} (e:Nat) (ms:List b8) (row:α->List DV) (l:List α):SV:= .own (.sl e ms) (.slice (l.map row))
section
variable {V:Type} {ve:V->SV}
theorem BJ (a b:List UInt8):ss (.str a) (.str b)=decide (a=b):=rfl
theorem xN:∀ (W:List (List UInt8×V)) (k:List UInt8),lM (ex .str ve W) (.str k)=(jB W k).map ve
 |[],_=>rfl
 |p::W,k=>by
  simp only[ex,Mk,lM,BJ,jB]
  by_cases h:k=p.1
  ·simp[h]
  ·simp only[h,NB,MZ];exact xN W k
theorem xO:∀ (W:List (List UInt8×V)) (k:List UInt8) (v:V),iO (ex .str ve W) (.str k) (ve v)=ex .str ve (kA W k v)
 |[],_,_=>rfl
 |p::W,k,v=>by
  simp only[ex,Mk,iO,BJ,kA]
  by_cases h:k=p.1
  ·simp[h]
  ·simp only[h,NB,MZ,Mk]
   have:=xO W k v
   simp only[ex] at this
   simp[this]
end
theorem DO {K V:Type} {ke:K->DV} {ve:V->SV} (id:Nat) (dv:DV) (hv:∀ v,eS id dv (ve v)=ve v):∀ (W:List (K×V)),tg id dv (ex ke ve W)=ex ke ve W
 |[]=>rfl
 |p::W=>by simp only[ex,Mk,tg,hv];rw[show W.map (fun p=>(ke p.1,ve p.2))=ex ke ve W from rfl,DO id dv hv W]
theorem DP (id:Nat) (dv:DV) (k:DV) (x:SV):∀ (kv:List (DV×SV)),tg id dv (iO kv k x)=iO (tg id dv kv) k (eS id dv x)
 |[]=>rfl
 |(q,e)::kv=>by
  simp only[iO,tg]
  by_cases h:ss k q=true
  ·simp only[h,Nr,tg]
  ·simp[h,tg,DP id dv k x kv]
theorem Fy {α:Type} {row:α->List DV} {n:Nat} (hsz:∀ a,(row a).length=n) (l:List α):(l.map row).map (fB (List.replicate n .sh))=cm row l:=by
 have h:∀ (n:Nat) (r:List DV),r.length=n->fB (List.replicate n .sh) r=dR r:=by
  intro n
  induction n with
  |zero=>intro r hr;cases r with
   |nil=>rfl
   |cons a r=>simp at hr
  |succ n ih=>intro r hr;cases r with
   |nil=>simp at hr
   |cons a r=>
    simp only[N2,fB,List.zipWith_cons_cons,AQ]
    have:=ih r (by simpa using hr)
    simp only[fB] at this
    rw[this];rfl
 simp only[cm,NV]
 apply Nv
 intro a _
 simp only[Function.comp]
 exact h n (row a) (hsz a)
section
variable {P:Program} {s:Nat->SV} {h:Nat->Ch} {K:St->Prop} {sos:List SO} {α:Type} {row:α->List DV}
theorem Jb {dst id:Nat} {z v:SV} {m k:SX} {kv:List (DV×SV)} {key:List UInt8} (hx:ev s m= .mp id) (hk:ev s k= .d (.str key)) (hh:h id= .map .str kv) (hv:lN kv (.str key) z=v) (hn:v.noOwn=true) (hrest:ba P K sos ⟨ay s dst v,h⟩):ba P K (.r dst (.look .str z false m k)::sos) ⟨s,h⟩:=by
 refine iE (p:=KK.str=KK.str/\KK.fits .str (.str key)=true/\v.noOwn=true) (v:=v) ?_ ⟨rfl,rfl,hn⟩ hrest
 simp only[rd,hx,hk,hh,hv];rfl
end
section
variable {P:Program} {s:Nat->SV} {h:Nat->Ch} {K:St->Prop} {sos:List SO} {α:Type} {row:α->List DV}
end
theorem BK {K V:Type} {kk:KK} {ke:K->DV} {ve:V->SV}:xM (.map kk []) (.map kk (ex ke ve [])):=rfl
attribute [push_cast] DP
