/-
  My text.
-/
import Derived.Test.YteaolfcegaidpaaGreatDoorSZEngV
namespace Go.Proofs.YteaolfcegaidpaaGreatDoor
set_option linter.unusedSimpArgs false
set_option linter.unusedVariables false
open Go.RowKit
variable {V:Type} {cs:List SV} {d:DV} {dst n sz:Nat} {α:Type}
def iV {K:Type} (G:K->DV) (q:V->SV) (W:List (K×V)):List (DV×SV):=W.map fun p=>(G p.1,q p.2)
def th {K V:Type} [DecidableEq K]:List (K×V)->K->Option V
 |[],_=>none
 |p::W,k=>if k=p.1 then some p.2 else th W k
def qT {K V:Type} [DecidableEq K]:List (K×V)->K->V->List (K×V)
 |[],k,v=>[(k,v)]
 |p::W,k,v=>if k=p.1 then(k,v)::W else p::qT W k v
def Rz (e:Nat) (ms:List cO) (H:α->List DV) (l:List α):SV:= .own (.sl e ms) (.slice (l.map H))
section
variable {V:Type} {q:V->SV}
theorem FR (a b:List UInt8):zO (.str a) (.str b)=decide (a=b):=rfl
theorem Bj:∀ (W:List (List UInt8×V)) (k:List UInt8),oR (iV .str q W) (.str k)=(th W k).map q
 |[],_=>rfl
 |p::W,k=>by
  simp only[iV,S5,oR,FR,th]
  by_cases h:k=p.1
  ·simp[h]
  ·simp only[h,Um,Tv];exact Bj W k
theorem Bk:∀ (W:List (List UInt8×V)) (k:List UInt8) (v:V),nR (iV .str q W) (.str k) (q v)=iV .str q (qT W k v)
 |[],_,_=>rfl
 |p::W,k,v=>by
  simp only[iV,S5,nR,FR,qT]
  by_cases h:k=p.1
  ·simp[h]
  ·simp only[h,Um,Tv,S5]
   have:=Bk W k v
   simp only[iV] at this
   simp[this]
end
theorem H_ {K V:Type} {G:K->DV} {q:V->SV} (id:Nat) (o:DV) (hv:∀ v,fS id o (q v)=q v):∀ (W:List (K×V)),Ck id o (iV G q W)=iV G q W
 |[]=>rfl
 |p::W=>by simp only[iV,S5,Ck,hv];rw[show W.map (fun p=>(G p.1,q p.2))=iV G q W from rfl,H_ id o hv W]
theorem tD {H:α->List DV} (I:∀ a,(H a).length=n) (l:List α):(l.map H).map (d7 (List.replicate n .sh))=bG H l:=by
 have h:∀ (n:Nat) (r:List DV),r.length=n->d7 (List.replicate n .sh) r=dR r:=by
  intro n
  induction n with
  |zero=>intro r hr;cases r with
   |nil=>rfl
   |cons a r=>simp at hr
  |succ n ih=>intro r hr;cases r with
   |nil=>simp at hr
   |cons a r=>
    simp only[U5,d7,UU,Cm]
    have:=ih r (by simpa using hr)
    simp only[d7] at this
    rw[this];rfl
 simp only[bG,UD]
 apply T3
 intro a _
 simp only[Function.comp]
 exact h n (H a) (I a)
section
variable {P:Program} {s:Nat->SV} {h:Nat->Ch} {K:St->Prop} {sos:List SO} {α:Type} {H:α->List DV}
theorem OL {id:Nat} {z v:SV} {m k:SX} {kv:List (DV×SV)} {key:List UInt8} (hx:ev s m= .mp id) (hk:ev s k= .d (.str key)) (hh:h id= .map .str kv) (hv:oU kv (.str key) z=v) (hn:v.noOwn=true) (g:a6 P K sos ⟨aD s dst v,h⟩):a6 P K (.r dst (.look .str z false m k)::sos) ⟨s,h⟩:=by
 refine fi (p:=KK.str=KK.str/\KK.fits .str (.str key)=true/\v.noOwn=true) (v:=v) ?_ ⟨rfl,rfl,hn⟩ g
 simp only[rd,hx,hk,hh,hv];rfl
end
section
variable {P:Program} {s:Nat->SV} {h:Nat->Ch} {K:St->Prop} {sos:List SO} {α:Type} {H:α->List DV}
theorem OM (hd:(SV.lit sz n cs).toDV=some d):∃ O,SV.toDVs cs=some O/\d= .slice (fN sz n O):=by
 unfold SV.toDV at hd
 split at hd
 ·rename_i xs hx
  simp only[SN] at hd
  exact⟨xs,hx,hd.symm⟩
 ·cases hd
theorem ON {R:Type} {r:R} {l:List α} {k:Nat} {n:Int} {x i:SX} {L:IntKind} {kk:α->Option R} (Z:(cm l n).bind kk=some r) (hx:ev s x= .lit sz k cs) (hd:(SV.lit sz k cs).toDV=some d) (J:d= .slice (l.map H)) (hi:ev s i= .d (.int L n)) (I:∀ e,(H e).length=sz) (hk:∀ e,kk e=some r->a6 P K sos ⟨aD s dst (.d (.ptr (H e))),h⟩):a6 P K (.r dst (.idx sz x i)::sos) ⟨s,h⟩:=by
 obtain⟨O,h1,h2⟩:=OM hd
 rw[J] at h2
 simp only[DV.slice.injEq] at h2
 cases hg:cm l n with
 |none=>rw[hg] at Z;cases Z
 |some e=>
  rw[hg] at Z
  unfold cm at hg
  split at hg
  ·rename_i h0
   refine fi (p:=0<=n/\(H e).length=sz) (v:= .d (.ptr (H e))) ?_ ⟨h0,I e⟩ (hk e Z)
   simp only[rd,hi,hx,h1,<-h2,Tk,hg,TL]
  ·cases hg
end
theorem Li {K:Type} {kk:KK} {G:K->DV} {q:V->SV}:Co (.map kk []) (.map kk (iV G q [])):=rfl
