/-
  My text.
-/
import Derived.Test.YtgmnipfafmphaaaGreatDoorSZEngV
namespace Go.Proofs.YtgmnipfafmphaaaGreatDoor
set_option linter.unusedSimpArgs false
set_option linter.unusedVariables false
open Go.RowKit
def ik {K V:Type} (ke:K->DV) (ve:V->SV) (W:List (K×V)):List (DV×SV):=W.map fun p=>(ke p.1,ve p.2)
def qj {K V:Type} [DecidableEq K]:List (K×V)->K->Option V
 |[],_=>none
 |p::W,k=>if k=p.1 then some p.2 else qj W k
def A8 {K V:Type} [DecidableEq K]:List (K×V)->K->V->List (K×V)
 |[],k,v=>[(k,v)]
 |p::W,k,v=>if k=p.1 then(k,v)::W else p::A8 W k v
def Hr {α:Type} (e:Nat) (ms:List aL) (row:α->List DV) (l:List α):SV:= .own (.sl e ms) (.slice (l.map row))
section
variable {V:Type} {ve:V->SV}
theorem p_ (a b:List UInt8):oG (.str a) (.str b)=decide (a=b):=rfl
theorem yz:∀ (W:List (List UInt8×V)) (k:List UInt8),j0 (ik .str ve W) (.str k)=(qj W k).map ve
 |[],_=>rfl
 |p::W,k=>by
  simp only[ik,Lh,j0,p_,qj]
  by_cases h:k=p.1
  ·simp[h]
  ·simp only[h,M9,LI];exact yz W k
theorem yA:∀ (W:List (List UInt8×V)) (k:List UInt8) (v:V),fJ (ik .str ve W) (.str k) (ve v)=ik .str ve (A8 W k v)
 |[],_,_=>rfl
 |p::W,k,v=>by
  simp only[ik,Lh,fJ,p_,A8]
  by_cases h:k=p.1
  ·simp[h]
  ·simp only[h,M9,LI,Lh]
   have:=yA W k v
   simp only[ik] at this
   simp[this]
end
theorem yB {α:Type} (k:List UInt8) (x y:α):∀ (kv:List (DV×α)),fJ (fJ kv (.str k) x) (.str k) y=fJ kv (.str k) y
 |[]=>by simp[fJ,p_]
 |(q,e)::kv=>by
  simp only[fJ]
  by_cases h:oG (.str k) q=true
  ·simp only[h,LX,fJ,p_,MK]
  ·simp only[Ml] at h
   simp[h,fJ,yB k x y kv]
theorem wA {K V:Type} {ke:K->DV} {ve:V->SV} (id:Nat) (dv:DV) (hv:∀ v,cr id dv (ve v)=ve v):∀ (W:List (K×V)),j9 id dv (ik ke ve W)=ik ke ve W
 |[]=>rfl
 |p::W=>by simp only[ik,Lh,j9,hv];rw[show W.map (fun p=>(ke p.1,ve p.2))=ik ke ve W from rfl,wA id dv hv W]
theorem DK {K α:Type} {ke:K->DV} {row:α->List DV} {e:Nat} {ms:List aL} (id:Nat) (dv:DV) (W:List (K×List α)):j9 id dv (ik ke (Hr e ms row) W)=ik ke (Hr e ms row) W:=wA id dv (fun _=>rfl) W
theorem A9 (id:Nat) (dv:DV) (k:DV) (x:SV):∀ (kv:List (DV×SV)),j9 id dv (fJ kv k x)=fJ (j9 id dv kv) k (cr id dv x)
 |[]=>rfl
 |(q,e)::kv=>by
  simp only[fJ,j9]
  by_cases h:oG k q=true
  ·simp only[h,LX,j9]
  ·simp[h,j9,A9 id dv k x kv]
theorem lg {α:Type} {row:α->List DV} {n:Nat} (hsz:∀ a,(row a).length=n) (l:List α):(l.map row).map (bW (List.replicate n .sh))=bH row l:=by
 have h:∀ (n:Nat) (r:List DV),r.length=n->bW (List.replicate n .sh) r=dR r:=by
  intro n
  induction n with
  |zero=>intro r hr;cases r with
   |nil=>rfl
   |cons a r=>simp at hr
  |succ n ih=>intro r hr;cases r with
   |nil=>simp at hr
   |cons a r=>
    simp only[List.replicate_succ,bW,MC,oO]
    have:=ih r (by simpa using hr)
    simp only[bW] at this
    rw[this];rfl
 simp only[bH,MD]
 apply LS
 intro a _
 simp only[Function.comp]
 exact h n (row a) (hsz a)
section
variable {P:Program} {s:Nat->SV} {h:Nat->Ch} {K:St->Prop} {sos:List SO} {α:Type} {row:α->List DV}
def JV (h:Nat->Ch) (s:Nat->SV) (t off:Nat):Option (List UInt8):=
 match s t with
 | .ref id o=>match h id with
  | .box cs=>match cs[o+off]? with
   |some (.d (.str k))=>some k
   |_=>none
  |_=>none
 |_=>none
theorem Hs {dst id:Nat} {z v:SV} {m k:SX} {kv:List (DV×SV)} {key:List UInt8} (hx:ev s m= .mp id) (hk:ev s k= .d (.str key)) (hh:h id= .map .str kv) (hv:qr kv (.str key) z=v) (hn:v.noOwn=true) (hrest:aA P K sos ⟨ak s dst v,h⟩):aA P K (.r dst (.look .str z false m k)::sos) ⟨s,h⟩:=by
 refine j1 (p:=KK.str=KK.str/\KK.fits .str (.str key)=true/\v.noOwn=true) (v:=v) ?_ ⟨rfl,rfl,hn⟩ hrest
 simp only[rd,hx,hk,hh,hv];rfl
end
section
variable {P:Program} {s:Nat->SV} {h:Nat->Ch} {K:St->Prop} {sos:List SO} {α:Type} {row:α->List DV}
theorem zH {sz n:Nat} {cs:List SV} {d:DV} (hd:(SV.lit sz n cs).toDV=some d):∃ ds,SV.toDVs cs=some ds/\d= .slice (dO sz n ds):=by
 unfold SV.toDV at hd
 split at hd
 ·rename_i xs hx
  simp only[K0] at hd
  exact⟨xs,hx,hd.symm⟩
 ·cases hd
theorem CQ {R:Type} {r:R} {l:List α} {sz k:Nat} {cs:List SV} {d:DV} {n:Int} {x i:SX} {ki:IntKind} {dst:Nat} {kk:α->Option R} (hm:(cO l n).bind kk=some r) (hx:ev s x= .lit sz k cs) (hd:(SV.lit sz k cs).toDV=some d) (he:d= .slice (l.map row)) (hi:ev s i= .d (.int ki n)) (hsz:∀ e,(row e).length=sz)
  (hk:∀ e,kk e=some r->aA P K sos ⟨ak s dst (.d (.ptr (row e))),h⟩):aA P K (.r dst (.idx sz x i)::sos) ⟨s,h⟩:=by
 obtain⟨ds,h1,h2⟩:=zH hd
 rw[he] at h2
 simp only[DV.slice.injEq] at h2
 cases hg:cO l n with
 |none=>rw[hg] at hm;cases hm
 |some e=>
  rw[hg] at hm
  unfold cO at hg
  split at hg
  ·rename_i h0
   refine j1 (p:=0<=n/\(row e).length=sz) (v:= .d (.ptr (row e))) ?_ ⟨h0,hsz e⟩ (hk e hm)
   simp only[rd,hi,hx,h1,<-h2,LD,hg,Me]
  ·cases hg
theorem Ht {R:Type} {r:R} {l:List α} {sz k:Nat} {cs:List SV} {d:DV} {lo hi:Option Int} {x:SX} {i j:Option SX} {dst:Nat} {kk:List α->Option R} (hm:(fB l (lo.getD 0) (hi.getD k)).bind kk=some r) (hx:ev s x= .lit sz k cs) (hd:(SV.lit sz k cs).toDV=some d) (he:d= .slice (l.map row)) (hl:zR s i=some lo) (hh:zR s j=some hi)
  (hk:∀ e,kk e=some r->aA P K sos ⟨ak s dst (.d (.slice (e.map row))),h⟩):aA P K (.r dst (.slc sz x i j)::sos) ⟨s,h⟩:=by
 obtain⟨ds,h1,h2⟩:=zH hd
 rw[he] at h2
 simp only[DV.slice.injEq] at h2
 have hlen:l.length=k:=by have:=Na List.length h2;simpa[ee] using this
 cases hg:fB l (lo.getD 0) (hi.getD k) with
 |none=>rw[hg] at hm;cases hm
 |some e=>
  rw[hg] at hm
  unfold fB at hg
  split at hg
  ·rename_i h0
   simp only[K0] at hg
   refine j1 (p:=sz=sz/\0<=lo.getD 0/\lo.getD 0<=hi.getD k/\hi.getD k<=k) (v:= .d (.slice (e.map row))) ?_ ⟨rfl,by omega,by omega,by omega⟩ (hk e hm)
   simp only[rd,hx,hl,hh,h1,<-h2,<-hg,List.map_drop,List.map_take]
  ·cases hg
theorem FF {m:Nat} {v:SV} (hv:∀ (w:World) (M:Nat->Prop) (κ:Nat->Value) (u:Value),ag w M κ (s m) u->ag w M κ v u):ce ⟨s,h⟩ ⟨ak s m v,h⟩:=by
 have key:∀ (w:World) (M:Nat->Prop) (κ:Nat->Value) (i:Nat) (u:Value),ag w M κ (s i) u->ag w M κ (ak s m v i) u:=by
  intro w M κ i u hu
  by_cases hi:i=m
  ·subst hi;simp only[ak,LX];exact hv w M κ u hu
  ·simp only[ak,hi,LI];exact hu
 intro c κ φ a w hr
 refine⟨κ,φ, ?_⟩
 exact{hr with
  slots:=fun i hi=>key _ _ _ _ _ (hr.slots i hi)
  ghost:=fun i v hv=>key _ _ _ _ _ (hr.ghost i v hv)}
theorem FH {w:World} {M:Nat->Prop} {κ:Nat->Value} {sz n:Nat} {cs:List SV} {ds:List DV} {u:Value} (hd:SV.toDVs cs=some ds) (hu:ag w M κ (.lit sz n cs) u):ag w M κ (.lit sz n (dR ds)) u:=by
 simp only[ag] at hu⊢
 obtain⟨b,vs,h1,h2,h3,h4,h5,h6,h7⟩:=hu
 exact⟨b,vs,h1,h2,h3,h4,h5,h6,EL (ai.toDVs cs vs ds h7 hd)⟩
theorem yC:∀ (sz n:Nat) (ds:List DV),dO sz n (dR ds)=(dO sz n ds).map dR
 |_,0,_=>rfl
 |sz,n+1,ds=>by
  simp only[dO,Lh]
  rw[show(dR ds).drop sz=dR (ds.drop sz) by simp[dR,List.map_drop],yC sz n]
  congr 1
  simp[dR,List.map_take]
theorem I6 {R:Type} {r:R} {l l2:List α} {m n dst e sz k:Nat} {cs:List SV} {ds:List DV} {Y:SV} {d d2:DV} {kk:Option R} (hm:mi (mB (l.length+l2.length)) kk=some r) (hx:s m= .lit sz k cs) (hds:SV.toDVs cs=some ds) (hd:(SV.lit sz k cs).toDV=some d) (hy:s n=Y) (hyd:Y.toDV=some d2) (he:d= .slice (l.map row)) (he2:d2= .slice (l2.map row)) (hpos:(!l2.isEmpty)=true) (hne:m≠n) (hsz:∀ a,(row a).length=sz)
  (hk:kk=some r->aA P K sos ⟨ak (ca dst .any (ak (ak s m (.lit sz k (dR ds))) n (.d (.slice (l2.map row))))) dst (.vec dst),ak (ct dst .any h) dst (.vec e sz (bH row (l++l2)))⟩):aA P K (.w dst (.app e sz (.t m) (.t n))::sos) ⟨s,h⟩:=by
 cases hl:mB (l.length+l2.length) with
 |none=>rw[hl] at hm;cases hm
 |some u=>
  rw[hl] at hm
  have hlen:=tl.1 hl
  obtain⟨ds',h1,h2⟩:=zH hd
  rw[h1] at hds;cases hds
  rw[he] at h2
  simp only[DV.slice.injEq] at h2
  have hkl:k=l.length:=by have:=Na List.length h2;simpa[ee] using this.symm
  have hi1:ce ⟨s,h⟩ ⟨ak s m (.lit sz k (dR ds)),h⟩:=FF fun w M κ u hu=>by rw[hx] at hu;exact FH h1 hu
  have hi2:ce ⟨ak s m (.lit sz k (dR ds)),h⟩ ⟨ak (ak s m (.lit sz k (dR ds))) n (.d (.slice (l2.map row))),h⟩:=tq (by simp only[ak,Ne.symm hne,LI,hy];exact zE (he2▸hyd))
  refine IH (hi1.trans hi2) (p:=sz=sz/\0<((l2.map row).map dR).length/\(∀ r∈(l2.map row).map dR,r.length=sz)/\k+((l2.map row).map dR).length<=137438953472)
   ?_ ⟨rfl, ?_,A4 hsz l2,by simp only[LN];omega⟩ (hk hm)
  ·simp only[wr,ev,ak,hne,LI,LX,qt,SV.toDV,cm,St.swap]
   rw[yC,<-h2,show(l2.map row).map dR=bH row l2 from rfl,show(l.map row).map dR=bH row l from rfl,uj,tn]
  ·cases l2 with
   |nil=>simp at hpos
   |cons _ _=>simp
def FI (c:α->DV) (l:List α):List SV:=l.map fun a=> .d (c a)
theorem wB:∀ (l:List UInt8),lF (l.map ka)=some l
 |[]=>rfl
 |c::l=>by
  have hc:(0:Int)<=c.toNat/\(c.toNat:Int)<256:=by have:=c.toNat_lt;omega
  simp only[Lh,ka,lF,hc,and_self,LX]
  rw[wB l]
  simp
theorem CR {l:List UInt8} {dst:Nat} {x:SX} (hx:ev s x= .d (.slice (l.map ka))) (hk:aA P K sos ⟨ak s dst (.d (.str l)),h⟩):aA P K (.r dst (.cvbs x)::sos) ⟨s,h⟩:=
 j1 (p:=True) (v:= .d (.str l)) (by simp only[rd,hx,wB]) trivial hk
end
theorem yD {K V:Type} {kk:KK} {ke:K->DV} {ve:V->SV}:tm (.map kk []) (.map kk (ik ke ve [])):=rfl
attribute [push_cast] DK A9 yB JV
end Go.Proofs.YtgmnipfafmphaaaGreatDoor

