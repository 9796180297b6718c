/-
  My text.
-/
import Derived.Test.YteaolfcegaidpaaGreatDoorSYEngRg
namespace Go.Proofs.YteaolfcegaidpaaGreatDoor
set_option linter.unusedSimpArgs false
set_option linter.unusedVariables false
open Go.RowKit
mutual
def nv (π:Nat->Nat):SV->SV
 | .ref id o=> .ref (π id) o
 | .vec id=> .vec (π id)
 | .vref id sz i o=> .vref (π id) sz i o
 | .mp id=> .mp (π id)
 | .clo f l=> .clo f (l.map π)
 | .agg cs=> .agg (oo π cs)
 | .tup cs=> .tup (oo π cs)
 | .lit sz n cs=> .lit sz n (oo π cs)
 | .d v=> .d v
 | .nils=> .nils
 | .own m v=> .own m v
def oo (π:Nat->Nat):List SV->List SV
 |[]=>[]
 |c::cs=>nv π c::oo π cs
end
def CA (π:Nat->Nat) (rows:List (List SV)):List (List SV):=rows.map (oo π)
def CB (π:Nat->Nat) (kv:List (DV×SV)):List (DV×SV):=kv.map fun p=>(p.1,nv π p.2)
def La (π:Nat->Nat):Ch->Ch
 | .dead=> .dead
 | .box cs=> .box (oo π cs)
 | .vec e sz rows=> .vec e sz (CA π rows)
 | .map kk kv=> .map kk (CB π kv)
 | .bld T e bs=> .bld T e bs
theorem Ab (π:Nat->Nat):∀ (xs ys:List SV),oo π (xs++ys)=oo π xs++oo π ys
 |[],_=>rfl
 |x::xs,ys=>by simp only[OM,oo,Ab π xs ys]
theorem Ac (π:Nat->Nat):∀ (xs:List SV),(oo π xs).length=xs.length
 |[]=>rfl
 |x::xs=>by simp only[oo,OW,Ac π xs]
theorem yj (π:Nat->Nat):∀ (rs:List (List SV)),(CA π rs).flatten=oo π rs.flatten
 |[]=>rfl
 |r::rs=>by
  have:=yj π rs
  simp only[CA] at this
  simp only[CA,OQ,O_,this,Ab]
section
variable {w:World} {M:Nat->Prop} {κ:Nat->Value} {π:Nat->Nat}
mutual
theorem kz (hπ:∀ i,π (π i)=i):∀ (x:SV) (u:Value),ae w M κ x u->ae w M (fun i=>κ (π i)) (nv π x) u
 | .ref id o,u,h=>by unfold ae at h;simp only[nv];unfold ae;simp only[hπ];exact h
 | .vec id,u,h=>by unfold ae at h;simp only[nv];unfold ae;simp only[hπ];exact h
 | .vref id sz i o,u,h=>by unfold ae at h;simp only[nv];unfold ae;simp only[hπ];exact h
 | .mp id,u,h=>by unfold ae at h;simp only[nv];unfold ae;simp only[hπ];exact h
 | .clo f l,u,h=>by
  unfold ae at h;simp only[nv];unfold ae
  refine⟨by rw[h.1,Qc];congr 2;exact PM fun i _=>by simp[hπ],fun i hi=> ?_⟩
  obtain⟨j,hj,rfl⟩:=Pd.1 hi
  simp only[hπ];exact h.2 j hj
 | .agg cs,u,h=>by
  unfold ae at h;simp only[nv];unfold ae
  obtain⟨vs,h1,h2,h3⟩:=h
  exact⟨vs,h1,h2,yk hπ cs vs h3⟩
 | .tup cs,u,h=>by
  unfold ae at h;simp only[nv];unfold ae
  obtain⟨vs,h1,h3⟩:=h
  exact⟨vs,h1,yk hπ cs vs h3⟩
 | .lit sz n cs,u,h=>by
  unfold ae at h;simp only[nv];unfold ae
  obtain⟨b,vs,h1,h2,h3,h4,h5,h6,h7⟩:=h
  exact⟨b,vs,h1,h2,h3,h4,h5,h6,yk hπ cs vs h7⟩
 | .d v,u,h=>by unfold ae at h;simp only[nv];unfold ae;exact h
 | .nils,u,h=>by unfold ae at h;simp only[nv];unfold ae;exact h
 | .own m v,u,h=>by unfold ae at h;exact h.elim
theorem yk (hπ:∀ i,π (π i)=i):∀ (cs:List SV) (us:List Value),ai w M κ cs us->ai w M (fun i=>κ (π i)) (oo π cs) us
 |[],us,h=>by unfold ai at h;simp only[oo];unfold ai;exact h
 |c::cs,us,h=>by
  unfold ai at h;simp only[oo];unfold ai
  obtain⟨u,vs,h1,h2,h3⟩:=h
  exact⟨u,vs,h1,kz hπ c u h2,yk hπ cs vs h3⟩
end
mutual
theorem Db (hπ:∀ i,π (π i)=i):∀ (x:SV) (u:Value) (F:List Nat),aK w M κ x u F->aK w M (fun i=>κ (π i)) (nv π x) u F
 | .own m v,u,F,h=>by unfold aK at h;simp only[nv];unfold aK;exact h
 | .agg cs,u,F,h=>by
  unfold aK at h;simp only[nv];unfold aK
  obtain⟨vs,h1,h2,h3⟩:=h
  exact⟨vs,h1,h2,sJ hπ cs vs F h3⟩
 | .tup cs,u,F,h=>by
  unfold aK at h;simp only[nv];unfold aK
  obtain⟨vs,h1,h3⟩:=h
  exact⟨vs,h1,sJ hπ cs vs F h3⟩
 | .d v,u,F,h=>by unfold aK at h;have:=kz hπ _ _ h.2;simp only[nv] at this⊢;unfold aK;exact⟨h.1,this⟩
 | .nils,u,F,h=>by unfold aK at h;have:=kz hπ _ _ h.2;simp only[nv] at this⊢;unfold aK;exact⟨h.1,this⟩
 | .lit sz n cs,u,F,h=>by unfold aK at h;have:=kz hπ _ _ h.2;simp only[nv] at this⊢;unfold aK;exact⟨h.1,this⟩
 | .ref id o,u,F,h=>by unfold aK at h;have:=kz hπ _ _ h.2;simp only[nv] at this⊢;unfold aK;exact⟨h.1,this⟩
 | .vec id,u,F,h=>by unfold aK at h;have:=kz hπ _ _ h.2;simp only[nv] at this⊢;unfold aK;exact⟨h.1,this⟩
 | .vref id sz i o,u,F,h=>by unfold aK at h;have:=kz hπ _ _ h.2;simp only[nv] at this⊢;unfold aK;exact⟨h.1,this⟩
 | .mp id,u,F,h=>by unfold aK at h;have:=kz hπ _ _ h.2;simp only[nv] at this⊢;unfold aK;exact⟨h.1,this⟩
 | .clo f l,u,F,h=>by unfold aK at h;have:=kz hπ _ _ h.2;simp only[nv] at this⊢;unfold aK;exact⟨h.1,this⟩
theorem sJ (hπ:∀ i,π (π i)=i):∀ (cs:List SV) (us:List Value) (F:List Nat),am w M κ cs us F->am w M (fun i=>κ (π i)) (oo π cs) us F
 |[],us,F,h=>by unfold am at h;simp only[oo];unfold am;exact h
 |c::cs,us,F,h=>by
  unfold am at h;simp only[oo];unfold am
  obtain⟨u,vs,F1,F2,h1,h2,h3,h4⟩:=h
  exact⟨u,vs,F1,F2,h1,h2,Db hπ c u F1 h3,sJ hπ cs vs F2 h4⟩
end
theorem E9 (hπ:∀ i,π (π i)=i) {kk:KK}:∀ (kv:List (DV×SV)) (es:List MapEntry) (F:List Nat),bk w M κ kk kv es F->bk w M (fun i=>κ (π i)) kk (CB π kv) es F
 |[],es,F,h=>by unfold bk at h;simp only[CB,PU];unfold bk;exact h
 |(k,c)::kv,es,F,h=>by
  unfold bk at h
  obtain⟨e,rest,F1,F2,h1,h2,h3,h4,h5,h6⟩:=h
  have ih:=E9 hπ kv rest F2 h6
  simp only[CB] at ih
  simp only[CB,OQ]
  unfold bk
  exact⟨e,rest,F1,F2,h1,h2,h3,h4,Db hπ c _ F1 h5,ih⟩
theorem Jy (hπ:∀ i,π (π i)=i) {id:Nat} {ch:Ch} {F:List Nat} (h:kj w M κ (π id) ch F):kj w M (fun i=>κ (π i)) id (La π ch) F:=by
 cases ch with
 |dead=>exact h
 |box cs=>
  obtain⟨b,T,vs,G,h1,h2,h3,h4,h5⟩:=h
  exact⟨b,T,vs,G,h1,h2,h3,sJ hπ _ _ _ h4,h5⟩
 |vec e sz rows=>
  obtain⟨xs,G,h1,h2,h3,h4,h5⟩:=h
  refine⟨xs,G,by simpa[CA] using h1,h2,fun r hr=> ?_,by rw[yj];exact sJ hπ _ _ _ h4,h5⟩
  obtain⟨q,hq,rfl⟩:=Pd.1 hr
  rw[Ac];exact h3 q hq
 |map kk kv=>
  obtain⟨r,es,clock,G,h1,h2,h3,h4,h5⟩:=h
  exact⟨r,es,clock,G,h1,h2,h3,E9 hπ _ _ _ h4,h5⟩
 |bld T e bs=>exact h
end
def wO (π:Nat->Nat) (σ:St):St:=⟨fun i=>nv π (σ.s i),fun i=>La π (σ.h (π i))⟩
section
variable {c:Cx} {σ:St} {κ:Nat->Value} {φ:Nat->List Nat} {a:Act} {w:World} {π:Nat->Nat}
theorem cE.ren (hπ:∀ i,π (π i)=i) (hr:cE c σ κ φ a w):cE c (wO π σ) (fun i=>κ (π i)) (fun i=>φ (π i)) a w:=by
 have hown:own c (fun i=>φ (π i))=own c φ:=funext fun b=>propext ⟨fun h=>h.imp id fun⟨i,hi⟩=>⟨π i,hi⟩,fun h=>h.imp id fun⟨i,hi⟩=>⟨π i,by show b∈φ (π (π i));rw[hπ];exact hi⟩⟩
 refine⟨hr.chg,hr.size,hr.m0,hr.ntmps,hr.defers,fun i=>hr.kok (π i),fun i hi=> ?_,fun i v hv=> ?_,fun i=> ?_,fun i b hb=>hr.mine (π i) b hb,fun i=>hr.nod (π i),fun i j b hij hi hj=> ?_⟩
 ·rw[hown];exact kz hπ _ _ (hr.slots i hi)
 ·rw[hown];exact kz hπ _ _ (hr.ghost i v hv)
 ·rw[hown];exact Jy hπ (hr.chunks (π i))
 ·exact hr.sep (π i) (π j) b (fun h=>hij (by rw[<-hπ i,h,hπ])) hi hj
theorem Lb (hπ:∀ i,π (π i)=i):dB σ (wO π σ):=fun _ _ _ _ _ hr=>⟨_,_,hr.ren hπ⟩
def sw (n b:Nat) (i:Nat):Nat:=if i<n then i+b else if b<=i/\i<b+n then i - b else i
theorem Nx {n b:Nat} (h:n<=b) (i:Nat):sw n b (sw n b i)=i:=by
 by_cases h1:i<n
 ·have e:sw n b i=i+b:=by unfold sw;rw[Qa h1]
  rw[e];unfold sw
  rw[P7 oM,Qa ⟨by omega,by omega⟩];omega
 ·by_cases h2:b<=i/\i<b+n
  ·have e:sw n b i=i - b:=by unfold sw;rw[P7 h1,Qa h2]
   rw[e];unfold sw
   rw[Qa oM];omega
  ·have e:sw n b i=i:=by unfold sw;rw[P7 h1,P7 h2]
   rw[e,e]
theorem Jz {n b:Nat} (h:n<=b):dB σ (wO (sw n b) σ):=Lb (Nx h)
def JA (c:Cx) (a:Act) (N:Nat):Cx:={c with N:=N,gs:=(List.range c.N).map (fun i=>a.tmps.getD i undef)++c.gs}
def JB (N:Nat) (xs:List SV) (σ:St):St:=⟨fun i=>if i<N then(match xs[i]? with|some x=>x|none=> .d .any) else σ.s (i - N),σ.h⟩
def BC (N:Nat) (dst:Option Nat) (v:SV) (σ:St):St:=⟨match dst with|some d=>aH (fun i=>σ.s (N+i)) d v|none=>fun i=>σ.s (N+i),σ.h⟩
theorem cE.enter (hr:cE c σ κ φ a w) {xs:List SV} {vs:List Value} (hx:ai w (own c φ) κ xs vs) (N:Nat) (hN:vs.length<=N):
  cE (JA c a N) (JB N xs σ) κ φ {tmps:=vs.toArray++Array.replicate (N - vs.toArray.size) undef,defers:=[]} w:=by
 have hget:∀ {xs:List SV} {vs:List Value} (i:Nat) x,ai w (own c φ) κ xs vs->xs[i]?=some x->∃ v,vs[i]?=some v/\ae w (own c φ) κ x v:=by
  intro xs
  induction xs with
  |nil=>intro vs i x _ h;cases h
  |cons y ys ih=>
   intro vs i x h hx
   unfold ai at h
   obtain⟨u,us,rfl,h1,h2⟩:=h
   cases i with
   |zero=>simp at hx;subst hx;exact⟨u,rfl,h1⟩
   |succ i=>exact ih i x h2 (by simpa using hx)
 refine⟨hr.chg,hr.size,hr.m0, ?_,rfl,hr.kok,fun i hi=> ?_,fun i v hv=> ?_,hr.chunks,hr.mine,hr.nod,hr.sep⟩
 ·show _=N
  simp;omega
 ·have hi':i<N:=hi
  show ae w (own c φ) κ (if i<N then _ else _) _
  rw[Qa hi']
  cases hxi:xs[i]? with
  |none=>simp[ae,aQ]
  |some x=>
   obtain⟨v,hv,h2⟩:=hget i x hx hxi
   have hlt:i<vs.length:=(OG.1 hv).1
   rw[PB,Array.getElem?_append_left (by simpa using hlt)]
   simpa[hv] using h2
 ·show ae w (own c φ) κ (if N+i<N then _ else σ.s (N+i - N)) v
  rw[P7 oM,Nat.add_sub_cancel_left]
  have hv':((List.range c.N).map (fun i=>a.tmps.getD i undef)++c.gs)[i]?=some v:=hv
  by_cases hlt:i<c.N
  ·rw[Py (by simpa using hlt)] at hv'
   simp[hlt] at hv'
   subst hv'
   have:=hr.slots i hlt
   simpa[PB] using this
  ·rw[Pe oT] at hv'
   have:=hr.ghost (i - c.N) v (by simpa using hv')
   rwa[show c.N+(i - c.N)=i by omega] at this
theorem cE.leave {c:Cx} {a a':Act} {σ:St} {κ:Nat->Value} {φ:Nat->List Nat} {w:World} {N:Nat} (hn:a.tmps.size=c.N) (hd:a.defers=[]) (hr:cE (JA c a N) σ κ φ a' w):cE c ⟨fun i=>σ.s (N+i),σ.h⟩ κ φ a w:=by
 refine⟨hr.chg,hr.size,hr.m0,hn,hd,hr.kok,fun i hi=> ?_,fun i v hv=> ?_,hr.chunks,hr.mine,hr.nod,hr.sep⟩
 ·exact hr.ghost i (a.tmps.getD i undef) (by
   show((List.range c.N).map (fun i=>a.tmps.getD i undef)++c.gs)[i]?=_
   rw[Py (by simpa using hi)]
   simp[hi])
 ·have:=hr.ghost (c.N+i) v (by
   show((List.range c.N).map (fun i=>a.tmps.getD i undef)++c.gs)[c.N+i]?=_
   rw[Pe oS]
   simpa using hv)
  exact this
end
def MG (P:Program) (site N:Nat) (dst:Option Nat) (qs:List RV) (post:List SO) (K:St->Prop):AX->St->Prop
 | .exit _,_=>False
 |_,σ=>∃ σ',dB σ σ'/\∃ xs,FQ σ' qs=some xs/\∃ σ2,dB (wO (sw 100000 site) (BC N dst (lN xs) σ')) σ2/\bh P K post σ2
section
variable {P:Program} {c:Cx} {σ:St} {κ:Nat->Value} {φ:Nat->List Nat} {a:Act} {w:World}
theorem Ad {ops:Array Oper} {K:St->Prop} {Q:Exit->Act->World->Prop} {rest:List Nat} (hQ:∀ σ' κ' φ' a' w',cE c σ' κ' φ' a' w'->K σ'->wpOps P ops Q rest a' w'):
  ∀ (sos:List SO) (l:List Oper) (k:Nat) (σ:St) (κ:Nat->Value) (φ:Nat->List Nat) (a:Act) (w:World),(∀ j o,l[j]?=some o->ops[k+j]?=some o)->aY P c.N ops l sos=true->cE c σ κ φ a w->bh P K sos σ->
  wpOps P ops Q (List.range' k l.length++rest) a w
 |[],l,k,σ,κ,φ,a,w,hl,hm,hr,h=>by
  cases l with
  |nil=>exact hQ _ _ _ _ _ hr h
  |cons _ _=>simp[aY] at hm
 |so::sos,l,k,σ,κ,φ,a,w,hl,hm,hr,h=>by
  cases l with
  |nil=>simp[aY] at hm
  |cons o l=>
   simp only[aY,Oz] at hm
   simp only[OW,List.range'_succ,OM,wpOps]
   have ho:ops[k]?=some o:=by simpa using hl 0 o oS
   simp only[ho]
   simp only[bh] at h
   exact wi hr hm.1 h fun σ' κ' φ' a' w' hr' hk=>Ad hQ sos l (k+1) σ' κ' φ' a' w' (fun j o' hj=>by
    have:=hl (j+1) o' (by simpa using hj)
    rw[show k+1+j=k+(j+1) by omega];exact this) hm.2 hr' hk
theorem uJ {N:Nat} {ops:Array Oper}:∀ {sos:List SO} {l:List Oper} {k:Nat} {so:SO},aY P N ops l sos=true->sos[k]?=some so->
  ∃ l1 o l2,l=l1++o::l2/\l1.length=k/\aY P N ops l1 (sos.take k)=true/\lz P N ops o so=true/\aY P N ops l2 (sos.drop (k+1))=true
 |[],_,_,_,_,h=>by cases h
 |s::sos,[],_,_,hm,_=>by simp[aY] at hm
 |s::sos,o::l,0,so,hm,h=>by
  simp only[aY,Oz] at hm
  simp at h;subst h
  exact⟨[],o,l,rfl,rfl,rfl,hm.1,hm.2⟩
 |s::sos,o::l,k+1,so,hm,h=>by
  simp only[aY,Oz] at hm
  obtain⟨l1,o',l2,rfl,h1,h2,h3,h4⟩:=uJ hm.2 (by simpa using h)
  exact⟨o::l1,o',l2,rfl,by simp[h1],by simp[aY,hm.1,h2],h3,by simpa using h4⟩
theorem HZ {M:Nat->Prop} {xs:List SV} {us:List Value} (h:ai w M κ xs us):ae w M κ (lN xs) (if h:us.toArray.size=1 then us.toArray[0] else .tuple us.toArray):=by
 have hl:=h.length
 match xs,us,h,hl with
 |[x],[u],h,_=>
  unfold ai at h
  obtain⟨u',us',h1,h2,h3⟩:=h
  simp only[O7] at h1
  obtain⟨rfl,rfl⟩:=h1
  simpa[lN] using h2
 |[],[],h,_=>simp only[lN];unfold ae;exact⟨[],by simp,h⟩
 |x::y::xs,u::v::us,h,_=>
  simp only[lN];unfold ae
  exact⟨_,by rw[dif_neg oS],h⟩
theorem BD {site N:Nat} {dst:Option Nat} {qs:List RV} {post:List SO} {K:St->Prop} {xs:List SV} {M:St} (hx:FQ σ qs=some xs) (hi:dB (wO (sw 100000 site) (BC N dst (lN xs) σ)) M) (hk:bh P K post M):MG P site N dst qs post K .normal σ:=⟨σ,dB.refl _,xs,hx,M,hi,hk⟩
end
section
variable {P:Program} {x0:SC} {Q:AX->St->Prop} {s:Nat->SV} {h:Nat->Ch} {α β:Type} {row:α->List DV} {row':β->List DV} {ms ms':List cB} {l:List α}
end
theorem Gs (π:Nat->Nat):∀ (l:List DV),oo π (dR l)=dR l
 |[]=>rfl
 |d::l=>by
  have:=Gs π l
  simp only[dR] at this
  simp only[dR,OQ,oo,nv,this]
theorem Dc (π:Nat->Nat):∀ (ms:List cB) (ds:List DV),oo π (iP ms ds)=iP ms ds
 |[],ds=>by simp[iP,oo]
 |m::ms,[]=>by simp[iP,oo]
 |m::ms,d::ds=>by
  have:=Dc π ms ds
  simp only[iP] at this
  simp only[iP,List.zipWith_cons_cons,oo,this]
  cases m<;>rfl
theorem H0 {α:Type} (π:Nat->Nat) (row:α->List DV) (l:List α):CA π (bF row l)=bF row l:=by
 simp only[CA,bF,Qc]
 exact PM fun a _=>Gs π (row a)
theorem H1 {K V:Type} {ke:K->DV} {f:V->DV} (π:Nat->Nat) (W:List (K×V)):CB π (iL ke (fun v=> .d (f v)) W)=iL ke (fun v=> .d (f v)) W:=by
 simp only[CB,iL,Qc];rfl
theorem JC {K α:Type} {ke:K->DV} {e:Nat} {ms:List cB} {row:α->List DV} (π:Nat->Nat) (W:List (K×List α)):CB π (iL ke (NF e ms row) W)=iL ke (NF e ms row) W:=by
 simp only[CB,iL,Qc];rfl
theorem JD (π:Nat->Nat):CA π []=[]:=rfl
theorem H2 (π:Nat->Nat) (r:List SV) (l:List (List SV)):CA π (r::l)=oo π r::CA π l:=rfl
theorem JE (π:Nat->Nat):CB π []=[]:=rfl
theorem Lc (π:Nat->Nat) (σ:St) (i:Nat):(wO π σ).s i=nv π (σ.s i):=rfl
theorem Ld (π:Nat->Nat) (σ:St) (i:Nat):(wO π σ).h i=La π (σ.h (π i)):=rfl
theorem MH (N:Nat) (xs:List SV) (σ:St) (i:Nat):(JB N xs σ).s i=if i<N then(match xs[i]? with|some x=>x|none=> .d .any) else σ.s (i - N):=rfl
theorem MI (N:Nat) (xs:List SV) (σ:St) (i:Nat):(JB N xs σ).h i=σ.h i:=rfl
theorem Le (N d:Nat) (v:SV) (σ:St) (i:Nat):(BC N (some d) v σ).s i=if i=d then v else σ.s (N+i):=rfl
theorem JF (N:Nat) (v:SV) (σ:St) (i:Nat):(BC N none v σ).s i=σ.s (N+i):=rfl
theorem Lf (N:Nat) (d:Option Nat) (v:SV) (σ:St) (i:Nat):(BC N d v σ).h i=σ.h i:=rfl
attribute [push_cast] nv oo La Gs Dc H0 H1 JC JD H2 JE Lc Ld MH MI Le JF Lf sw FQ RV.sv lN
