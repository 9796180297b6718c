/-
  My text.
-/
import Derived.Test.YtgmnipfafmphaaaGreatDoorSYEngV
namespace Go.Proofs.YtgmnipfafmphaaaGreatDoor
set_option linter.unusedSimpArgs false
set_option linter.unusedVariables false
open Go.RowKit
variable {J:List DV} {R V:Type} {cs:List SV} {d:DV} {dst e id k:Nat} {l:List UInt8} {m n sz:Nat} {v:SV} {x:SX} {α:Type} {H:α->List DV} {r:R}
def kw {K:Type} (u:K->DV) (g:V->SV) (W:List (K×V)):List (DV×SV):=W.map fun p=>(u p.1,g p.2)
def uk {K V:Type} [DecidableEq K]:List (K×V)->K->Option V
 |[],_=>none
 |p::W,k=>if k=p.1 then some p.2 else uk W k
def FX {K V:Type} [DecidableEq K]:List (K×V)->K->V->List (K×V)
 |[],k,v=>[(k,v)]
 |p::W,k,v=>if k=p.1 then(k,v)::W else p::FX W k v
def Rj (e:Nat) (ms:List bj) (H:α->List DV) (l:List α):SV:= .own (.sl e ms) (.slice (l.map H))
section
variable {V:Type} {g:V->SV}
theorem Dg (a b:List UInt8):vX (.str a) (.str b)=decide (a=b):=rfl
theorem Dh:∀ (W:List (List UInt8×V)) (k:List UInt8),mf (kw .str g W) (.str k)=(uk W k).map g
 |[],_=>rfl
 |p::W,k=>by
  simp only[kw,Tc,mf,Dg,uk]
  by_cases h:k=p.1
  ·simp[h]
  ·simp only[h,UO,Tq];exact Dh W k
theorem Di:∀ (W:List (List UInt8×V)) (k:List UInt8) (v:V),mg (kw .str g W) (.str k) (g v)=kw .str g (FX W k v)
 |[],_,_=>rfl
 |p::W,k,v=>by
  simp only[kw,Tc,mg,Dg,FX]
  by_cases h:k=p.1
  ·simp[h]
  ·simp only[h,UO,Tq,Tc]
   have:=Di W k v
   simp only[kw] at this
   simp[this]
end
theorem FY {K V:Type} {u:K->DV} {g:V->SV} (id:Nat) (o:DV) (hv:∀ v,c8 id o (g v)=g v):∀ (W:List (K×V)),sD id o (kw u g W)=kw u g W
 |[]=>rfl
 |p::W=>by simp only[kw,Tc,sD,hv];rw[show W.map (fun p=>(u p.1,g p.2))=kw u g W from rfl,FY id o hv W]
theorem rm (F:∀ a,(H a).length=n) (l:List α):(l.map H).map (bi (List.replicate n .sh))=aM H l:=by
 have h:∀ (n:Nat) (r:List DV),r.length=n->bi (List.replicate n .sh) r=dR r:=by
  intro n
  induction n with
  |zero=>intro r D;cases r with
   |nil=>rfl
   |cons a r=>simp at D
  |succ n ih=>intro r D;cases r with
   |nil=>simp at D
   |cons a r=>
    simp only[List.replicate_succ,bi,UN,sJ]
    have:=ih r (by simpa using D)
    simp only[bi] at this
    rw[this];rfl
 simp only[aM,Us]
 apply TR
 intro a _
 simp only[Function.comp]
 exact h n (H a) (F a)
section
variable {P:Program} {s:Nat->SV} {h:Nat->Ch} {K:St->Prop} {sos:List SO} {α:Type} {H:α->List DV}
theorem N2 {z:SV} {m k:SX} {kv:List (DV×SV)} {key:List UInt8} (hx:ev s m= .mp id) (hk:ev s k= .d (.str key)) (hh:h id= .map .str kv) (hv:uA kv (.str key) z=v) (hn:v.noOwn=true) (i:aD P K sos ⟨am s dst v,h⟩):aD P K (.r dst (.look .str z false m k)::sos) ⟨s,h⟩:=by
 refine iC (p:=KK.str=KK.str/\KK.fits .str (.str key)=true/\v.noOwn=true) (v:=v) ?_ ⟨rfl,rfl,hn⟩ i
 simp only[rd,hx,hk,hh,hv];rfl
end
section
variable {P:Program} {s:Nat->SV} {h:Nat->Ch} {K:St->Prop} {sos:List SO} {α:Type} {H:α->List DV}
theorem Er (hd:(SV.lit sz n cs).toDV=some d):∃ J,SV.toDVs cs=some J/\d= .slice (eQ sz n J):=by
 unfold SV.toDV at hd
 split at hd
 ·rename_i xs hx
  simp only[SN] at hd
  exact⟨xs,hx,hd.symm⟩
 ·cases hd
theorem Im {l:List α} {n:Int} {i:SX} {b:IntKind} {kk:α->Option R} (Z:(b4 l n).bind kk=some r) (hx:ev s x= .lit sz k cs) (hd:(SV.lit sz k cs).toDV=some d) (he:d= .slice (l.map H)) (hi:ev s i= .d (.int b n)) (F:∀ e,(H e).length=sz) (hk:∀ e,kk e=some r->aD P K sos ⟨am s dst (.d (.ptr (H e))),h⟩):aD P K (.r dst (.idx sz x i)::sos) ⟨s,h⟩:=by
 obtain⟨J,h1,h2⟩:=Er hd
 rw[he] at h2
 simp only[DV.slice.injEq] at h2
 cases hg:b4 l n with
 |none=>rw[hg] at Z;cases Z
 |some e=>
  rw[hg] at Z
  unfold b4 at hg
  split at hg
  ·rename_i h0
   refine iC (p:=0<=n/\(H e).length=sz) (v:= .d (.ptr (H e))) ?_ ⟨h0,F e⟩ (hk e Z)
   simp only[rd,hi,hx,h1,<-h2,TC,hg,Uf]
  ·cases hg
theorem N3 {l:List α} {lo hi:Option Int} {i j:Option SX} {kk:List α->Option R} (Z:(cz l (lo.getD 0) (hi.getD k)).bind kk=some r) (hx:ev s x= .lit sz k cs) (hd:(SV.lit sz k cs).toDV=some d) (he:d= .slice (l.map H)) (hl:zu s i=some lo) (hh:zu s j=some hi) (hk:∀ e,kk e=some r->aD P K sos ⟨am s dst (.d (.slice (e.map H))),h⟩):aD P K (.r dst (.slc sz x i j)::sos) ⟨s,h⟩:=by
 obtain⟨J,h1,h2⟩:=Er hd
 rw[he] at h2
 simp only[DV.slice.injEq] at h2
 have I:l.length=k:=by have:=TX List.length h2;simpa[ff] using this
 cases hg:cz l (lo.getD 0) (hi.getD k) with
 |none=>rw[hg] at Z;cases Z
 |some e=>
  rw[hg] at Z
  unfold cz at hg
  split at hg
  ·rename_i h0
   simp only[SN] at hg
   refine iC (p:=sz=sz/\0<=lo.getD 0/\lo.getD 0<=hi.getD k/\hi.getD k<=k) (v:= .d (.slice (e.map H))) ?_ ⟨rfl,by omega,by omega,by omega⟩ (hk e Z)
   simp only[rd,hx,hl,hh,h1,<-h2,<-hg,List.map_drop,UZ]
  ·cases hg
theorem LT (hv:∀ (w:World) (M:Nat->Prop) (κ:Nat->Value) (u:Value),ai w M κ (s m) u->ai w M κ v u):bm ⟨s,h⟩ ⟨am s m v,h⟩:=by
 have key:∀ (w:World) (M:Nat->Prop) (κ:Nat->Value) (i:Nat) (u:Value),ai w M κ (s i) u->ai w M κ (am s m v i) u:=by
  intro w M κ i u hu
  by_cases hi:i=m
  ·subst hi;simp only[am,TB];exact hv w M κ u hu
  ·simp only[am,hi,Tq];exact hu
 intro c κ φ a w D
 refine⟨κ,φ, ?_⟩
 exact{D with
  slots:=fun i hi=>key _ _ _ _ _ (D.slots i hi)
  ghost:=fun i v hv=>key _ _ _ _ _ (D.ghost i v hv)}
theorem LU {w:World} {M:Nat->Prop} {κ:Nat->Value} {u:Value} (hd:SV.toDVs cs=some J) (hu:ai w M κ (.lit sz n cs) u):ai w M κ (.lit sz n (dR J)) u:=by
 simp only[ai] at hu⊢
 obtain⟨b,vs,h1,h2,E,h4,h5,h6,h7⟩:=hu
 exact⟨b,vs,h1,h2,E,h4,h5,h6,K3 (an.toDVs cs vs J h7 hd)⟩
theorem Dj:∀ (sz n:Nat) (J:List DV),eQ sz n (dR J)=(eQ sz n J).map dR
 |_,0,_=>rfl
 |sz,n+1,J=>by
  simp only[eQ,Tc]
  rw[show(dR J).drop sz=dR (J.drop sz) by simp[dR,List.map_drop],Dj sz n]
  congr 1
  simp[dR,UZ]
theorem Qh {l l2:List α} {Y:SV} {d2:DV} {kk:Option R} (Z:mh (lG (l.length+l2.length)) kk=some r) (hx:s m= .lit sz k cs) (r6:SV.toDVs cs=some J) (hd:(SV.lit sz k cs).toDV=some d) (hy:s n=Y) (r5:Y.toDV=some d2) (he:d= .slice (l.map H)) (c:d2= .slice (l2.map H)) (r8:(!l2.isEmpty)=true) (U:m≠n) (F:∀ a,(H a).length=sz) (hk:kk=some r->aD P K sos ⟨am (bl dst .any (am (am s m (.lit sz k (dR J))) n (.d (.slice (l2.map H))))) dst (.vec dst),am (bG dst .any h) dst (.vec e sz (aM H (l++l2)))⟩):aD P K (.w dst (.app e sz (.t m) (.t n))::sos) ⟨s,h⟩:=by
 cases hl:lG (l.length+l2.length) with
 |none=>rw[hl] at Z;cases Z
 |some u=>
  rw[hl] at Z
  have I:=mG.1 hl
  obtain⟨i,h1,h2⟩:=Er hd
  rw[h1] at r6;cases r6
  rw[he] at h2
  simp only[DV.slice.injEq] at h2
  have r1:k=l.length:=by have:=TX List.length h2;simpa[ff] using this.symm
  have u2:bm ⟨s,h⟩ ⟨am s m (.lit sz k (dR J)),h⟩:=LT fun w M κ u hu=>by rw[hx] at hu;exact LU h1 hu
  have r9:bm ⟨am s m (.lit sz k (dR J)),h⟩ ⟨am (am s m (.lit sz k (dR J))) n (.d (.slice (l2.map H))),h⟩:=xJ (by simp only[am,Ne.symm U,Tq,hy];exact zy (c▸r5))
  refine PW (u2.trans r9) (p:=sz=sz/\0<((l2.map H).map dR).length/\(∀ r∈(l2.map H).map dR,r.length=sz)/\k+((l2.map H).map dR).length<=137438953472)
   ?_ ⟨rfl, ?_,A2 F l2,by simp only[TL];omega⟩ (hk Z)
  ·simp only[wr,ev,am,U,Tq,TB,pM,SV.toDV,cy,St.swap]
   rw[Dj,<-h2,show(l2.map H).map dR=aM H l2 from rfl,show(l.map H).map dR=aM H l from rfl,o0,pY]
  ·cases l2 with
   |nil=>simp at r8
   |cons _ _=>simp
theorem A6:∀ (l:List UInt8),oa (l.map cP)=some l
 |[]=>rfl
 |c::l=>by
  have hc:(0:Int)<=c.toNat/\(c.toNat:Int)<256:=by have:=c.toNat_lt;omega
  simp only[Tc,cP,oa,hc,and_self,TB]
  rw[A6 l]
  simp
theorem A7:∀ (l:List UInt8),jF (aM cP l).flatten=some l
 |[]=>rfl
 |c::l=>by
  have hc:(0:Int)<=c.toNat/\(c.toNat:Int)<256:=by have:=c.toNat_lt;omega
  have ih:=A7 l
  simp only[aM] at ih⊢
  simp only[Tc,cP,dR,TF,Ug,Td,S8,jF,hc,and_self,TB]
  rw[ih]
  simp
theorem Hn:jF []=some []:=rfl
theorem FZ {c:UInt8} (h:jF cs=some l):jF (.d (.int .u8 (c.toNat:Int))::cs)=some (c::l):=by
 have hc:(0:Int)<=c.toNat/\(c.toNat:Int)<256:=by have:=c.toNat_lt;omega
 simp only[jF,hc,and_self,TB,h]
 simp
theorem Es (hx:ev s x= .d (.slice (l.map cP))) (hk:aD P K sos ⟨am s dst (.d (.str l)),h⟩):aD P K (.r dst (.cvbs x)::sos) ⟨s,h⟩:=
 iC (p:=True) (v:= .d (.str l)) (by simp only[rd,hx,A6]) trivial hk
theorem N4 (hx:ev s x= .lit 1 n cs) (hl:jF cs=some l) (hk:aD P K sos ⟨am s dst (.d (.str l)),h⟩):aD P K (.r dst (.cvbs x)::sos) ⟨s,h⟩:=
 iC (p:=1=1) (v:= .d (.str l)) (by simp only[rd,hx,hl]) rfl hk
theorem N5 (hx:ev s x= .vec id) (hh:h id= .vec e 1 (aM cP l)) (hk:aD P K sos ⟨am s dst (.d (.str l)),h⟩):aD P K (.r dst (.cvbs x)::sos) ⟨s,h⟩:=
 iC (p:=1=1) (v:= .d (.str l)) (by simp only[rd,hx,hh,A7]) rfl hk
end
theorem A8:([]:List (List SV))=aM H ([]:List α):=rfl
theorem wv {r:List SV} {rs:List (List SV)} {a:α} {l:List α} (h1:r=dR (H a)) (h2:rs=aM H l):r::rs=aM H (a::l):=JL h1 h2
theorem Dk {K:Type} {kk:KK} {u:K->DV} {g:V->SV}:xI (.map kk []) (.map kk (kw u g [])):=rfl
end Go.Proofs.YtgmnipfafmphaaaGreatDoor

