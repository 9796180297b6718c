/-
  My text.
-/
import Derived.Test.YtgmnipfafmphaaaGreatDoorSXEngV
namespace Go.Proofs.YtgmnipfafmphaaaGreatDoor
set_option linter.unusedSimpArgs false
set_option linter.unusedVariables false
open Go.RowKit
variable {J:List DV} {R V:Type} {cs:List SV} {d:DV} {dst e id k:Nat} {l:List UInt8} {m n sz:Nat} {v:SV} {x:SX} {α:Type} {H:α->List DV} {r:R}
def nz {K:Type} (G:K->DV) (g:V->SV) (W:List (K×V)):List (DV×SV):=W.map fun p=>(G p.1,g p.2)
def xB {K V:Type} [DecidableEq K]:List (K×V)->K->Option V
 |[],_=>none
 |p::W,k=>if k=p.1 then some p.2 else xB W k
def Im {K V:Type} [DecidableEq K]:List (K×V)->K->V->List (K×V)
 |[],k,v=>[(k,v)]
 |p::W,k,v=>if k=p.1 then(k,v)::W else p::Im W k v
def Ty (e:Nat) (ms:List bH) (H:α->List DV) (l:List α):SV:= .own (.sl e ms) (.slice (l.map H))
section
variable {V:Type} {g:V->SV}
theorem FL (a b:List UInt8):y3 (.str a) (.str b)=decide (a=b):=rfl
theorem FM:∀ (W:List (List UInt8×V)) (k:List UInt8),po (nz .str g W) (.str k)=(xB W k).map g
 |[],_=>rfl
 |p::W,k=>by
  simp only[nz,VF,po,FL,xB]
  by_cases h:k=p.1
  ·simp[h]
  ·simp only[h,Xh,VQ];exact FM W k
theorem FN:∀ (W:List (List UInt8×V)) (k:List UInt8) (v:V),pq (nz .str g W) (.str k) (g v)=nz .str g (Im W k v)
 |[],_,_=>rfl
 |p::W,k,v=>by
  simp only[nz,VF,pq,FL,Im]
  by_cases h:k=p.1
  ·simp[h]
  ·simp only[h,Xh,VQ,VF]
   have:=FN W k v
   simp only[nz] at this
   simp[this]
end
theorem Io {K V:Type} {G:K->DV} {g:V->SV} (id:Nat) (o:DV) (hv:∀ v,d6 id o (g v)=g v):∀ (W:List (K×V)),vT id o (nz G g W)=nz G g W
 |[]=>rfl
 |p::W=>by simp only[nz,VF,vT,hv];rw[show W.map (fun p=>(G p.1,g p.2))=nz G g W from rfl,Io id o hv W]
theorem uG (F:∀ a,(H a).length=n) (l:List α):(l.map H).map (bA (List.replicate n .sh))=aY H l:=by
 have h:∀ (n:Nat) (r:List DV),r.length=n->bA (List.replicate n .sh) r=dR r:=by
  intro n
  induction n with
  |zero=>intro r D;cases r with
   |nil=>rfl
   |cons a r=>simp at D
  |succ n ih=>intro r D;cases r with
   |nil=>simp at D
   |cons a r=>
    simp only[List.replicate_succ,bA,Xf,vY]
    have:=ih r (by simpa using D)
    simp only[bA] at this
    rw[this];rfl
 simp only[aY,WZ]
 apply Wc
 intro a _
 simp only[Function.comp]
 exact h n (H a) (F a)
section
variable {P:Program} {s:Nat->SV} {h:Nat->Ch} {K:St->Prop} {sos:List SO} {α:Type} {H:α->List DV}
theorem P0 {z:SV} {m k:SX} {kv:List (DV×SV)} {key:List UInt8} (hx:ev s m= .mp id) (hk:ev s k= .d (.str key)) (hh:h id= .map .str kv) (hv:xS kv (.str key) z=v) (hn:v.noOwn=true) (i:aI P K sos ⟨ap s dst v,h⟩):aI P K (.r dst (.look .str z false m k)::sos) ⟨s,h⟩:=by
 refine jj (p:=KK.str=KK.str/\KK.fits .str (.str key)=true/\v.noOwn=true) (v:=v) ?_ ⟨rfl,rfl,hn⟩ i
 simp only[rd,hx,hk,hh,hv];rfl
end
section
variable {P:Program} {s:Nat->SV} {h:Nat->Ch} {K:St->Prop} {sos:List SO} {α:Type} {H:α->List DV}
theorem GZ (hd:(SV.lit sz n cs).toDV=some d):∃ J,SV.toDVs cs=some J/\d= .slice (f_ sz n J):=by
 unfold SV.toDV at hd
 split at hd
 ·rename_i xs hx
  simp only[Vi] at hd
  exact⟨xs,hx,hd.symm⟩
 ·cases hd
theorem KH {l:List α} {n:Int} {i:SX} {b:IntKind} {kk:α->Option R} (Z:(aV l n).bind kk=some r) (hx:ev s x= .lit sz k cs) (hd:(SV.lit sz k cs).toDV=some d) (he:d= .slice (l.map H)) (hi:ev s i= .d (.int b n)) (F:∀ e,(H e).length=sz) (hk:∀ e,kk e=some r->aI P K sos ⟨ap s dst (.d (.ptr (H e))),h⟩):aI P K (.r dst (.idx sz x i)::sos) ⟨s,h⟩:=by
 obtain⟨J,h1,h2⟩:=GZ hd
 rw[he] at h2
 simp only[DV.slice.injEq] at h2
 cases L:aV l n with
 |none=>rw[L] at Z;cases Z
 |some e=>
  rw[L] at Z
  unfold aV at L
  split at L
  ·rename_i h0
   refine jj (p:=0<=n/\(H e).length=sz) (v:= .d (.ptr (H e))) ?_ ⟨h0,F e⟩ (hk e Z)
   simp only[rd,hi,hx,h1,<-h2,V5,L,WJ]
  ·cases L
theorem P1 {l:List α} {lo hi:Option Int} {i j:Option SX} {kk:List α->Option R} (Z:(b5 l (lo.getD 0) (hi.getD k)).bind kk=some r) (hx:ev s x= .lit sz k cs) (hd:(SV.lit sz k cs).toDV=some d) (he:d= .slice (l.map H)) (hl:Cf s i=some lo) (hh:Cf s j=some hi) (hk:∀ e,kk e=some r->aI P K sos ⟨ap s dst (.d (.slice (e.map H))),h⟩):aI P K (.r dst (.slc sz x i j)::sos) ⟨s,h⟩:=by
 obtain⟨J,h1,h2⟩:=GZ hd
 rw[he] at h2
 simp only[DV.slice.injEq] at h2
 have I:l.length=k:=by have:=Wf List.length h2;simpa[gF] using this
 cases L:b5 l (lo.getD 0) (hi.getD k) with
 |none=>rw[L] at Z;cases Z
 |some e=>
  rw[L] at Z
  unfold b5 at L
  split at L
  ·rename_i h0
   simp only[Vi] at L
   refine jj (p:=sz=sz/\0<=lo.getD 0/\lo.getD 0<=hi.getD k/\hi.getD k<=k) (v:= .d (.slice (e.map H))) ?_ ⟨rfl,by omega,by omega,by omega⟩ (hk e Z)
   simp only[rd,hx,hl,hh,h1,<-h2,<-L,List.map_drop,Xt]
  ·cases L
theorem NY (hv:∀ (w:World) (M:Nat->Prop) (κ:Nat->Value) (u:Value),al w M κ (s m) u->al w M κ v u):bt ⟨s,h⟩ ⟨ap s m v,h⟩:=by
 have key:∀ (w:World) (M:Nat->Prop) (κ:Nat->Value) (i:Nat) (u:Value),al w M κ (s i) u->al w M κ (ap s m v i) u:=by
  intro w M κ i u hu
  by_cases hi:i=m
  ·subst hi;simp only[ap,VW];exact hv w M κ u hu
  ·simp only[ap,hi,VQ];exact hu
 intro c κ φ a w D
 refine⟨κ,φ, ?_⟩
 exact{D with
  slots:=fun i hi=>key _ _ _ _ _ (D.slots i hi)
  ghost:=fun i v hv=>key _ _ _ _ _ (D.ghost i v hv)}
theorem NZ {w:World} {M:Nat->Prop} {κ:Nat->Value} {u:Value} (hd:SV.toDVs cs=some J) (hu:al w M κ (.lit sz n cs) u):al w M κ (.lit sz n (dR J)) u:=by
 simp only[al] at hu⊢
 obtain⟨b,vs,h1,h2,E,h4,h5,h6,h7⟩:=hu
 exact⟨b,vs,h1,h2,E,h4,h5,h6,M2 (av.toDVs cs vs J h7 hd)⟩
theorem FO:∀ (sz n:Nat) (J:List DV),f_ sz n (dR J)=(f_ sz n J).map dR
 |_,0,_=>rfl
 |sz,n+1,J=>by
  simp only[f_,VF]
  rw[show(dR J).drop sz=dR (J.drop sz) by simp[dR,List.map_drop],FO sz n]
  congr 1
  simp[dR,Xt]
theorem Se {l l2:List α} {Y:SV} {d2:DV} {kk:Option R} (Z:ew (gq (l.length+l2.length)) kk=some r) (hx:s m= .lit sz k cs) (L:SV.toDVs cs=some J) (hd:(SV.lit sz k cs).toDV=some d) (hy:s n=Y) (r8:Y.toDV=some d2) (he:d= .slice (l.map H)) (b:d2= .slice (l2.map H)) (X:(!l2.isEmpty)=true) (U:m≠n) (F:∀ a,(H a).length=sz) (hk:kk=some r->aI P K sos ⟨ap (bG dst .any (ap (ap s m (.lit sz k (dR J))) n (.d (.slice (l2.map H))))) dst (.vec dst),ap (bK dst .any h) dst (.vec e sz (aY H (l++l2)))⟩):aI P K (.w dst (.app e sz (.t m) (.t n))::sos) ⟨s,h⟩:=by
 cases hl:gq (l.length+l2.length) with
 |none=>rw[hl] at Z;cases Z
 |some u=>
  rw[hl] at Z
  have I:=nT.1 hl
  obtain⟨i,h1,h2⟩:=GZ hd
  rw[h1] at L;cases L
  rw[he] at h2
  simp only[DV.slice.injEq] at h2
  have r2:k=l.length:=by have:=Wf List.length h2;simpa[gF] using this.symm
  have u1:bt ⟨s,h⟩ ⟨ap s m (.lit sz k (dR J)),h⟩:=NY fun w M κ u hu=>by rw[hx] at hu;exact NZ h1 hu
  have r5:bt ⟨ap s m (.lit sz k (dR J)),h⟩ ⟨ap (ap s m (.lit sz k (dR J))) n (.d (.slice (l2.map H))),h⟩:=xp (by simp only[ap,Ne.symm U,VQ,hy];exact zo (b▸r8))
  refine Py (u1.trans r5) (p:=sz=sz/\0<((l2.map H).map dR).length/\(∀ r∈(l2.map H).map dR,r.length=sz)/\k+((l2.map H).map dR).length<=137438953472)
   ?_ ⟨rfl, ?_,zq F l2,by simp only[Wj];omega⟩ (hk Z)
  ·simp only[wr,ev,ap,U,VQ,VW,sM,SV.toDV,dh,St.swap]
   rw[FO,<-h2,show(l2.map H).map dR=aY H l2 from rfl,show(l.map H).map dR=aY H l from rfl,sP,rz]
  ·cases l2 with
   |nil=>simp at X
   |cons _ _=>simp
theorem DM:∀ (l:List UInt8),rM (l.map ej)=some l
 |[]=>rfl
 |c::l=>by
  have hc:(0:Int)<=c.toNat/\(c.toNat:Int)<256:=by have:=c.toNat_lt;omega
  simp only[VF,ej,rM,hc,and_self,VW]
  rw[DM l]
  simp
theorem DN:∀ (l:List UInt8),mH (aY ej l).flatten=some l
 |[]=>rfl
 |c::l=>by
  have hc:(0:Int)<=c.toNat/\(c.toNat:Int)<256:=by have:=c.toNat_lt;omega
  have ih:=DN l
  simp only[aY] at ih⊢
  simp only[VF,ej,dR,V4,WG,VG,VC,mH,hc,and_self,VW]
  rw[ih]
  simp
theorem JO:mH []=some []:=rfl
theorem Ip {c:UInt8} (h:mH cs=some l):mH (.d (.int .u8 (c.toNat:Int))::cs)=some (c::l):=by
 have hc:(0:Int)<=c.toNat/\(c.toNat:Int)<256:=by have:=c.toNat_lt;omega
 simp only[mH,hc,and_self,VW,h]
 simp
theorem Ck (hx:ev s x= .d (.slice (l.map ej))) (hk:aI P K sos ⟨ap s dst (.d (.str l)),h⟩):aI P K (.r dst (.cvbs x)::sos) ⟨s,h⟩:=
 jj (p:=True) (v:= .d (.str l)) (by simp only[rd,hx,DM]) trivial hk
theorem P2 (hx:ev s x= .lit 1 n cs) (hl:mH cs=some l) (hk:aI P K sos ⟨ap s dst (.d (.str l)),h⟩):aI P K (.r dst (.cvbs x)::sos) ⟨s,h⟩:=
 jj (p:=1=1) (v:= .d (.str l)) (by simp only[rd,hx,hl]) rfl hk
theorem KI (hx:ev s x= .vec id) (hh:h id= .vec e 1 (aY ej l)) (hk:aI P K sos ⟨ap s dst (.d (.str l)),h⟩):aI P K (.r dst (.cvbs x)::sos) ⟨s,h⟩:=
 jj (p:=1=1) (v:= .d (.str l)) (by simp only[rd,hx,hh,DN]) rfl hk
end
theorem N0:([]:List (List SV))=aY H ([]:List α):=rfl
theorem KJ {r:List SV} {rs:List (List SV)} {a:α} {l:List α} (h1:r=dR (H a)) (h2:rs=aY H l):r::rs=aY H (a::l):=LR h1 h2
theorem FP {K:Type} {kk:KK} {G:K->DV} {g:V->SV}:Ax (.map kk []) (.map kk (nz G g [])):=rfl
