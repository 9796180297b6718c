/-
  My text.
-/
import Derived.Test.YteaolfcegaidpaaGreatDoorSYEngV
namespace Go.Proofs.YteaolfcegaidpaaGreatDoor
set_option linter.unusedSimpArgs false
set_option linter.unusedVariables false
open Go.RowKit
def iL {K V:Type} (ke:K->DV) (ve:V->SV) (W:List (K×V)):List (DV×SV):=W.map fun p=>(ke p.1,ve p.2)
def rA {K V:Type} [DecidableEq K]:List (K×V)->K->Option V
 |[],_=>none
 |p::W,k=>if k=p.1 then some p.2 else rA W k
def pH {K V:Type} [DecidableEq K]:List (K×V)->K->V->List (K×V)
 |[],k,v=>[(k,v)]
 |p::W,k,v=>if k=p.1 then(k,v)::W else p::pH W k v
def NF {α:Type} (e:Nat) (ms:List cB) (row:α->List DV) (l:List α):SV:= .own (.sl e ms) (.slice (l.map row))
section
variable {V:Type} {ve:V->SV}
theorem Dp (a b:List UInt8):xV (.str a) (.str b)=decide (a=b):=rfl
theorem zk:∀ (W:List (List UInt8×V)) (k:List UInt8),n_ (iL .str ve W) (.str k)=(rA W k).map ve
 |[],_=>rfl
 |p::W,k=>by
  simp only[iL,OQ,n_,Dp,rA]
  by_cases h:k=p.1
  ·simp[h]
  ·simp only[h,Qj,Pp];exact zk W k
theorem zl:∀ (W:List (List UInt8×V)) (k:List UInt8) (v:V),no (iL .str ve W) (.str k) (ve v)=iL .str ve (pH W k v)
 |[],_,_=>rfl
 |p::W,k,v=>by
  simp only[iL,OQ,no,Dp,pH]
  by_cases h:k=p.1
  ·simp[h]
  ·simp only[h,Qj,Pp,OQ]
   have:=zl W k v
   simp only[iL] at this
   simp[this]
end
theorem Fu {K V:Type} {ke:K->DV} {ve:V->SV} (id:Nat) (dv:DV) (hv:∀ v,fQ id dv (ve v)=ve v):∀ (W:List (K×V)),Ap id dv (iL ke ve W)=iL ke ve W
 |[]=>rfl
 |p::W=>by simp only[iL,OQ,Ap,hv];rw[show W.map (fun p=>(ke p.1,ve p.2))=iL ke ve W from rfl,Fu id dv hv W]
theorem Eh {α:Type} {row:α->List DV} {n:Nat} (hsz:∀ a,(row a).length=n) (l:List α):(l.map row).map (iP (List.replicate n .sh))=bF row l:=by
 have h:∀ (n:Nat) (r:List DV),r.length=n->iP (List.replicate n .sh) r=dR r:=by
  intro n
  induction n with
  |zero=>intro r hr;cases r with
   |nil=>rfl
   |cons a r=>simp at hr
  |succ n ih=>intro r hr;cases r with
   |nil=>simp at hr
   |cons a r=>
    simp only[Qy,iP,List.zipWith_cons_cons,Cz]
    have:=ih r (by simpa using hr)
    simp only[iP] at this
    rw[this];rfl
 simp only[bF,Qc]
 apply PM
 intro a _
 simp only[Function.comp]
 exact h n (row a) (hsz a)
section
variable {P:Program} {s:Nat->SV} {h:Nat->Ch} {K:St->Prop} {sos:List SO} {α:Type} {row:α->List DV}
theorem Lq {dst id:Nat} {z v:SV} {m k:SX} {kv:List (DV×SV)} {key:List UInt8} (hx:ev s m= .mp id) (hk:ev s k= .d (.str key)) (hh:h id= .map .str kv) (hv:oa kv (.str key) z=v) (hn:v.noOwn=true) (hrest:bh P K sos ⟨aH s dst v,h⟩):bh P K (.r dst (.look .str z false m k)::sos) ⟨s,h⟩:=by
 refine im (p:=KK.str=KK.str/\KK.fits .str (.str key)=true/\v.noOwn=true) (v:=v) ?_ ⟨rfl,rfl,hn⟩ hrest
 simp only[rd,hx,hk,hh,hv];rfl
end
section
variable {P:Program} {s:Nat->SV} {h:Nat->Ch} {K:St->Prop} {sos:List SO} {α:Type} {row:α->List DV}
theorem Lr {sz n:Nat} {cs:List SV} {d:DV} (hd:(SV.lit sz n cs).toDV=some d):∃ ds,SV.toDVs cs=some ds/\d= .slice (fC sz n ds):=by
 unfold SV.toDV at hd
 split at hd
 ·rename_i xs hx
  simp only[Oy] at hd
  exact⟨xs,hx,hd.symm⟩
 ·cases hd
theorem Lt {R:Type} {r:R} {l:List α} {sz k:Nat} {cs:List SV} {d:DV} {n:Int} {x i:SX} {ki:IntKind} {dst:Nat} {kk:α->Option R} (hm:(dg l n).bind kk=some r) (hx:ev s x= .lit sz k cs) (hd:(SV.lit sz k cs).toDV=some d) (he:d= .slice (l.map row)) (hi:ev s i= .d (.int ki n)) (hsz:∀ e,(row e).length=sz)
  (hk:∀ e,kk e=some r->bh P K sos ⟨aH s dst (.d (.ptr (row e))),h⟩):bh P K (.r dst (.idx sz x i)::sos) ⟨s,h⟩:=by
 obtain⟨ds,h1,h2⟩:=Lr hd
 rw[he] at h2
 simp only[DV.slice.injEq] at h2
 cases hg:dg l n with
 |none=>rw[hg] at hm;cases hm
 |some e=>
  rw[hg] at hm
  unfold dg at hg
  split at hg
  ·rename_i h0
   refine im (p:=0<=n/\(row e).length=sz) (v:= .d (.ptr (row e))) ?_ ⟨h0,hsz e⟩ (hk e hm)
   simp only[rd,hi,hx,h1,<-h2,O6,hg,Pf]
  ·cases hg
end
theorem Ig {K V:Type} {kk:KK} {ke:K->DV} {ve:V->SV}:As (.map kk []) (.map kk (iL ke ve [])):=rfl
