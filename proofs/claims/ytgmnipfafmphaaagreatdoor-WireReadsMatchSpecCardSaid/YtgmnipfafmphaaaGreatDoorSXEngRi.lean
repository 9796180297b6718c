/-
  My text.
-/
import Derived.Test.YtgmnipfafmphaaaGreatDoorSXEngRg
namespace Go.Proofs.YtgmnipfafmphaaaGreatDoor
set_option linter.unusedSimpArgs false
set_option linter.unusedVariables false
open Go.RowKit
variable {K:St->Prop} {N:Nat} {Q:AX->St->Prop} {args:List SX} {b:Nat} {dst:Option Nat} {e e' f:Nat} {h:Nat->Ch} {i id k:Nat} {ms:List bH} {n n' off:Nat} {post:List SO} {q:Nat} {qs:List RV} {s:Nat->SV} {sos:List SO} {sz:Nat} {x:SC} {xs:List SV} {α:Type} {H:α->List DV} {l:List α}
mutual
def pH (π:Nat->Nat):SV->SV
 | .ref id o=> .ref (π id) o
 | .vec id=> .vec (π id)
 | .vref id sz i o=> .vref (π id) sz i o
 | .mp id=> .mp (π id)
 | .agg cs=> .agg (ph π cs)
 | .tup cs=> .tup (ph π cs)
 | .lit sz n cs=> .lit sz n (ph π cs)
 | .d v=> .d v
 | .nils=> .nils
 | .own m v=> .own m v
def ph (π:Nat->Nat):List SV->List SV
 |[]=>[]
 |c::cs=>pH π c::ph π cs
end
def yt (π:Nat->Nat) (rows:List (List SV)):List (List SV):=rows.map (ph π)
def EI (π:Nat->Nat) (kv:List (DV×SV)):List (DV×SV):=kv.map fun p=>(p.1,pH π p.2)
def PE (π:Nat->Nat):Ch->Ch
 | .dead=> .dead
 | .box cs=> .box (ph π cs)
 | .vec e sz rows=> .vec e sz (yt π rows)
 | .map kk kv=> .map kk (EI π kv)
 | .bld T e bs=> .bld T e bs
theorem Bp (π:Nat->Nat):∀ (xs ys:List SV),ph π (xs++ys)=ph π xs++ph π ys
 |[],_=>rfl
 |x::xs,ys=>by simp only[VG,ph,Bp π xs ys]
theorem Bq (π:Nat->Nat):∀ (xs:List SV),(ph π xs).length=xs.length
 |[]=>rfl
 |x::xs=>by simp only[ph,Vk,Bq π xs]
theorem zi (π:Nat->Nat):∀ (rs:List (List SV)),(yt π rs).flatten=ph π rs.flatten
 |[]=>rfl
 |r::rs=>by
  have:=zi π rs
  simp only[yt] at this
  simp only[yt,VF,V4,this,Bp]
section
variable {w:World} {M:Nat->Prop} {κ:Nat->Value} {π:Nat->Nat}
mutual
theorem mX (d:∀ i,π (π i)=i):∀ (x:SV) (u:Value),al w M κ x u->al w M (fun i=>κ (π i)) (pH π x) u
 | .ref id o,u,h=>by unfold al at h;simp only[pH];unfold al;simp only[d];exact h
 | .vec id,u,h=>by unfold al at h;simp only[pH];unfold al;simp only[d];exact h
 | .vref id sz i o,u,h=>by unfold al at h;simp only[pH];unfold al;simp only[d];exact h
 | .mp id,u,h=>by unfold al at h;simp only[pH];unfold al;simp only[d];exact h
 | .agg cs,u,h=>by
  unfold al at h;simp only[pH];unfold al
  obtain⟨vs,h1,h2,E⟩:=h
  exact⟨vs,h1,h2,zj d cs vs E⟩
 | .tup cs,u,h=>by
  unfold al at h;simp only[pH];unfold al
  obtain⟨vs,h1,E⟩:=h
  exact⟨vs,h1,zj d cs vs E⟩
 | .lit sz n cs,u,h=>by
  unfold al at h;simp only[pH];unfold al
  obtain⟨b,vs,h1,h2,E,h4,h5,h6,h7⟩:=h
  exact⟨b,vs,h1,h2,E,h4,h5,h6,zj d cs vs h7⟩
 | .d v,u,h=>by unfold al at h;simp only[pH];unfold al;exact h
 | .nils,u,h=>by unfold al at h;simp only[pH];unfold al;exact h
 | .own m v,u,h=>by unfold al at h;exact h.elim
theorem zj (d:∀ i,π (π i)=i):∀ (cs:List SV) (X:List Value),av w M κ cs X->av w M (fun i=>κ (π i)) (ph π cs) X
 |[],X,h=>by unfold av at h;simp only[ph];unfold av;exact h
 |c::cs,X,h=>by
  unfold av at h;simp only[ph];unfold av
  obtain⟨u,vs,h1,h2,E⟩:=h
  exact⟨u,vs,h1,mX d c u h2,zj d cs vs E⟩
end
mutual
theorem Fr (d:∀ i,π (π i)=i):∀ (x:SV) (u:Value) (F:List Nat),aT w M κ x u F->aT w M (fun i=>κ (π i)) (pH π x) u F
 | .own m v,u,F,h=>by unfold aT at h;simp only[pH];unfold aT;exact h
 | .agg cs,u,F,h=>by
  unfold aT at h;simp only[pH];unfold aT
  obtain⟨vs,h1,h2,E⟩:=h
  exact⟨vs,h1,h2,tS d cs vs F E⟩
 | .tup cs,u,F,h=>by
  unfold aT at h;simp only[pH];unfold aT
  obtain⟨vs,h1,E⟩:=h
  exact⟨vs,h1,tS d cs vs F E⟩
 | .d v,u,F,h=>by unfold aT at h;have:=mX d _ _ h.2;simp only[pH] at this⊢;unfold aT;exact⟨h.1,this⟩
 | .nils,u,F,h=>by unfold aT at h;have:=mX d _ _ h.2;simp only[pH] at this⊢;unfold aT;exact⟨h.1,this⟩
 | .lit sz n cs,u,F,h=>by unfold aT at h;have:=mX d _ _ h.2;simp only[pH] at this⊢;unfold aT;exact⟨h.1,this⟩
 | .ref id o,u,F,h=>by unfold aT at h;have:=mX d _ _ h.2;simp only[pH] at this⊢;unfold aT;exact⟨h.1,this⟩
 | .vec id,u,F,h=>by unfold aT at h;have:=mX d _ _ h.2;simp only[pH] at this⊢;unfold aT;exact⟨h.1,this⟩
 | .vref id sz i o,u,F,h=>by unfold aT at h;have:=mX d _ _ h.2;simp only[pH] at this⊢;unfold aT;exact⟨h.1,this⟩
 | .mp id,u,F,h=>by unfold aT at h;have:=mX d _ _ h.2;simp only[pH] at this⊢;unfold aT;exact⟨h.1,this⟩
theorem tS (d:∀ i,π (π i)=i):∀ (cs:List SV) (X:List Value) (F:List Nat),az w M κ cs X F->az w M (fun i=>κ (π i)) (ph π cs) X F
 |[],X,F,h=>by unfold az at h;simp only[ph];unfold az;exact h
 |c::cs,X,F,h=>by
  unfold az at h;simp only[ph];unfold az
  obtain⟨u,vs,N,R,h1,h2,E,h4⟩:=h
  exact⟨u,vs,N,R,h1,h2,Fr d c u N E,tS d cs vs R h4⟩
end
theorem H5 (d:∀ i,π (π i)=i) {kk:KK}:∀ (kv:List (DV×SV)) (es:List MapEntry) (F:List Nat),bQ w M κ kk kv es F->bQ w M (fun i=>κ (π i)) kk (EI π kv) es F
 |[],es,F,h=>by unfold bQ at h;simp only[EI,WG];unfold bQ;exact h
 |(k,c)::kv,es,F,h=>by
  unfold bQ at h
  obtain⟨e,z,N,R,h1,h2,E,h4,h5,h6⟩:=h
  have ih:=H5 d kv z R h6
  simp only[EI] at ih
  simp only[EI,VF]
  unfold bQ
  exact⟨e,z,N,R,h1,h2,E,h4,Fr d c _ N h5,ih⟩
theorem Nn (d:∀ i,π (π i)=i) {ch:Ch} {F:List Nat} (h:lV w M κ (π id) ch F):lV w M (fun i=>κ (π i)) id (PE π ch) F:=by
 cases ch with
 |dead=>exact h
 |box cs=>
  obtain⟨b,T,vs,G,h1,h2,E,h4,h5⟩:=h
  exact⟨b,T,vs,G,h1,h2,E,tS d _ _ _ h4,h5⟩
 |vec e sz rows=>
  obtain⟨xs,G,h1,h2,E,h4,h5⟩:=h
  refine⟨xs,G,by simpa[yt] using h1,h2,fun r D=> ?_,by rw[zi];exact tS d _ _ _ h4,h5⟩
  obtain⟨q,hq,rfl⟩:=VT.1 D
  rw[Bq];exact E q hq
 |map kk kv=>
  obtain⟨r,es,K,G,h1,h2,E,h4,h5⟩:=h
  exact⟨r,es,K,G,h1,h2,E,H5 d _ _ _ h4,h5⟩
 |bld T e bs=>exact h
end
def xU (π:Nat->Nat) (σ:St):St:=⟨fun i=>pH π (σ.s i),fun i=>PE π (σ.h (π i))⟩
section
variable {c:Cx} {σ:St} {κ:Nat->Value} {φ:Nat->List Nat} {a:Act} {w:World} {π:Nat->Nat}
theorem dp.ren (d:∀ i,π (π i)=i) (D:dp c σ κ φ a w):dp c (xU π σ) (fun i=>κ (π i)) (fun i=>φ (π i)) a w:=by
 have h9:own c (fun i=>φ (π i))=own c φ:=funext fun b=>propext ⟨fun h=>h.imp id fun⟨i,hi⟩=>⟨π i,hi⟩,fun h=>h.imp id fun⟨i,hi⟩=>⟨π i,by show b∈φ (π (π i));rw[d];exact hi⟩⟩
 refine⟨D.chg,D.size,D.m0,D.ntmps,D.defers,fun i=>D.kok (π i),fun i hi=> ?_,fun i v hv=> ?_,fun i=> ?_,fun i b hb=>D.mine (π i) b hb,fun i=>D.nod (π i),fun i j b r0 hi hj=> ?_⟩
 ·rw[h9];exact mX d _ _ (D.slots i hi)
 ·rw[h9];exact mX d _ _ (D.ghost i v hv)
 ·rw[h9];exact Nn d (D.chunks (π i))
 ·exact D.sep (π i) (π j) b (fun h=>r0 (by rw[<-d i,h,d])) hi hj
theorem PF (d:∀ i,π (π i)=i):bt σ (xU π σ):=fun _ _ _ _ _ D=>⟨_,_,D.ren d⟩
def sw (n b i:Nat):Nat:=if i<n then i+b else if b<=i/\i<b+n then i - b else i
theorem To (h:n<=b) (i:Nat):sw n b (sw n b i)=i:=by
 by_cases h1:i<n
 ·have e:sw n b i=i+b:=by unfold sw;rw[Wy h1]
  rw[e];unfold sw
  rw[WU oM,Wy ⟨by omega,by omega⟩];omega
 ·by_cases h2:b<=i/\i<b+n
  ·have e:sw n b i=i - b:=by unfold sw;rw[WU h1,Wy h2]
   rw[e];unfold sw
   rw[Wy oM];omega
  ·have e:sw n b i=i:=by unfold sw;rw[WU h1,WU h2]
   rw[e,e]
theorem Np (h:n<=b):bt σ (xU (sw n b) σ):=PF (To h)
def Nq (c:Cx) (a:Act) (N:Nat):Cx:={c with N:=N,gs:=(List.range c.N).map (fun i=>a.tmps.getD i undef)++c.gs}
def Nr (N:Nat) (xs:List SV) (σ:St):St:=⟨fun i=>if i<N then(match xs[i]? with|some x=>x|none=> .d .any) else σ.s (i - N),σ.h⟩
def Di (N:Nat) (dst:Option Nat) (v:SV) (σ:St):St:=⟨match dst with|some d=>ap (fun i=>σ.s (N+i)) d v|none=>fun i=>σ.s (N+i),σ.h⟩
theorem dp.enter (D:dp c σ κ φ a w) {vs:List Value} (hx:av w (own c φ) κ xs vs) (N:Nat) (hN:vs.length<=N):
  dp (Nq c a N) (Nr N xs σ) κ φ {tmps:=vs.toArray++Array.replicate (N - vs.toArray.size) undef,defers:=[]} w:=by
 have R:∀ {xs:List SV} {vs:List Value} (i:Nat) x,av w (own c φ) κ xs vs->xs[i]?=some x->∃ v,vs[i]?=some v/\al w (own c φ) κ x v:=by
  intro xs
  induction xs with
  |nil=>intro vs i x _ h;cases h
  |cons y ys ih=>
   intro vs i x h hx
   unfold av at h
   obtain⟨u,X,rfl,h1,h2⟩:=h
   cases i with
   |zero=>simp at hx;subst hx;exact⟨u,rfl,h1⟩
   |succ i=>exact ih i x h2 (by simpa using hx)
 refine⟨D.chg,D.size,D.m0, ?_,rfl,D.kok,fun i hi=> ?_,fun i v hv=> ?_,D.chunks,D.mine,D.nod,D.sep⟩
 ·show _=N
  simp;omega
 ·have h5:i<N:=hi
  show al w (own c φ) κ (if i<N then _ else _) _
  rw[Wy h5]
  cases r6:xs[i]? with
  |none=>simp[al,bf]
  |some x=>
   obtain⟨v,hv,h2⟩:=R i x hx r6
   have h9:i<vs.length:=(Vr.1 hv).1
   rw[V2,Array.getElem?_append_left (by simpa using h9)]
   simpa[hv] using h2
 ·show al w (own c φ) κ (if N+i<N then _ else σ.s (N+i - N)) v
  rw[WU oM,Nat.add_sub_cancel_left]
  have r7:((List.range c.N).map (fun i=>a.tmps.getD i undef)++c.gs)[i]?=some v:=hv
  by_cases h9:i<c.N
  ·rw[V7 (by simpa using h9)] at r7
   simp[h9] at r7
   subst r7
   have:=D.slots i h9
   simpa[V2] using this
  ·rw[VP oT] at r7
   have:=D.ghost (i - c.N) v (by simpa using r7)
   rwa[show c.N+(i - c.N)=i by omega] at this
theorem dp.leave {c:Cx} {a a':Act} {σ:St} {κ:Nat->Value} {φ:Nat->List Nat} {w:World} (hn:a.tmps.size=c.N) (hd:a.defers=[]) (D:dp (Nq c a N) σ κ φ a' w):dp c ⟨fun i=>σ.s (N+i),σ.h⟩ κ φ a w:=by
 refine⟨D.chg,D.size,D.m0,hn,hd,D.kok,fun i hi=> ?_,fun i v hv=> ?_,D.chunks,D.mine,D.nod,D.sep⟩
 ·exact D.ghost i (a.tmps.getD i undef) (by
   show((List.range c.N).map (fun i=>a.tmps.getD i undef)++c.gs)[i]?=_
   rw[V7 (by simpa using hi)]
   simp[hi])
 ·have:=D.ghost (c.N+i) v (by
   show((List.range c.N).map (fun i=>a.tmps.getD i undef)++c.gs)[c.N+i]?=_
   rw[VP oS]
   simpa using hv)
  exact this
end
def RM (P:Program) (q N:Nat) (dst:Option Nat) (qs:List RV) (post:List SO) (K:St->Prop):AX->St->Prop
 | .exit _,_=>False
 |_,σ=>∃ O,bt σ O/\∃ xs,IQ O qs=some xs/\∃ r0,bt (xU (sw 100000 q) (Di N dst (mY xs) O)) r0/\aI P K post r0
def UE (P:Program) (q N:Nat) (args:List SX) (x:SC) (K:AX->St->Prop) (σ:St):Prop:=∃ r0,bt (xU (sw 100000 q) (Nr N (args.map (ev σ.s)) σ)) r0/\AW P x K r0
section
variable {P:Program} {c:Cx} {σ:St} {κ:Nat->Value} {φ:Nat->List Nat} {a:Act} {w:World}
theorem Br {ops:Array Oper} {K:St->Prop} {Q:Exit->Act->World->Prop} {z:List Nat} (hQ:∀ O W h7 a' w',dp c O W h7 a' w'->K O->wpOps P ops Q z a' w'):
  ∀ (sos:List SO) (l:List Oper) (k:Nat) (σ:St) (κ:Nat->Value) (φ:Nat->List Nat) (a:Act) (w:World),(∀ j o,l[j]?=some o->ops[k+j]?=some o)->a_ P c.N ops l sos=true->dp c σ κ φ a w->aI P K sos σ->
  wpOps P ops Q (List.range' k l.length++z) a w
 |[],l,k,σ,κ,φ,a,w,hl,Z,D,h=>by
  cases l with
  |nil=>exact hQ _ _ _ _ _ D h
  |cons _ _=>simp[a_] at Z
 |so::sos,l,k,σ,κ,φ,a,w,hl,Z,D,h=>by
  cases l with
  |nil=>simp[a_] at Z
  |cons o l=>
   simp only[a_,Vj] at Z
   simp only[Vk,List.range'_succ,VG,wpOps]
   have ho:ops[k]?=some o:=by simpa using hl 0 o oS
   simp only[ho]
   simp only[aI] at h
   exact xm D Z.1 h fun O W h7 a' w' h8 hk=>Br hQ sos l (k+1) O W h7 a' w' (fun j o' hj=>by
    have:=hl (j+1) o' (by simpa using hj)
    rw[show k+1+j=k+(j+1) by omega];exact this) Z.2 h8 hk
theorem vZ {N:Nat} {ops:Array Oper}:∀ {sos:List SO} {l:List Oper} {k:Nat} {so:SO},a_ P N ops l sos=true->sos[k]?=some so->
  ∃ l1 o l2,l=l1++o::l2/\l1.length=k/\a_ P N ops l1 (sos.take k)=true/\l4 P N ops o so=true/\a_ P N ops l2 (sos.drop (k+1))=true
 |[],_,_,_,_,h=>by cases h
 |s::sos,[],_,_,Z,_=>by simp[a_] at Z
 |s::sos,o::l,0,so,Z,h=>by
  simp only[a_,Vj] at Z
  simp at h;subst h
  exact⟨[],o,l,rfl,rfl,rfl,Z.1,Z.2⟩
 |s::sos,o::l,k+1,so,Z,h=>by
  simp only[a_,Vj] at Z
  obtain⟨l1,o',l2,rfl,h1,h2,E,h4⟩:=vZ Z.2 (by simpa using h)
  exact⟨o::l1,o',l2,rfl,by simp[h1],by simp[a_,Z.1,h2],E,by simpa using h4⟩
theorem LE {M:Nat->Prop} {X:List Value} (h:av w M κ xs X):al w M κ (mY xs) (if h:X.toArray.size=1 then X.toArray[0] else .tuple X.toArray):=by
 have hl:=h.length
 match xs,X,h,hl with
 |[x],[u],h,_=>
  unfold av at h
  obtain⟨n,g,h1,h2,E⟩:=h
  simp only[V9] at h1
  obtain⟨rfl,rfl⟩:=h1
  simpa[mY] using h2
 |[],[],h,_=>simp only[mY];unfold al;exact⟨[],by simp,h⟩
 |x::y::xs,u::v::X,h,_=>
  simp only[mY];unfold al
  exact⟨_,by rw[dif_neg oS],h⟩
theorem Tp (hk:sos[k]?=some (.p dst (.f f) args)) (b:100000<=q) (G:aI P (UE P q N args x (RM P q N dst qs (sos.drop (k+1)) (Q .normal))) (sos.take k) σ):AW P (.inl k sos N x qs) Q σ:=fun p c g R Z Y κ φ a w D=>by
 obtain⟨id,ops,rfl,Z⟩:∃ id ops,g= .region id ops false/\dS P c.N (.inl k sos N x qs) (.region id ops false)=true:=by
  cases g with
  |region id ops n=>cases n with
   |false=>exact⟨id,ops,rfl,Z⟩
   |true=>simp[dS] at Z
  |_=>simp[dS] at Z
 simp only[dS,hk,Vj] at Z
 obtain⟨s3,h6,r8⟩:=Z
 cases C:P.funcs[f]? with
 |none=>simp[C] at r8
 |some fn=>
  simp only[C,Vj,Vv] at r8
  obtain⟨⟨⟨hN,I⟩,F⟩,r⟩:=r8
  cases hb:fn.body with
  |none=>simp[hb] at r
  |some bc=>
   simp only[hb] at r
   obtain⟨l1,o,l2,y,t,k1,k2,k3⟩:=vZ s3 hk
   refine wp_region ?_
   have e:ops.size=l1.length+(1+l2.length):=by rw[<-Array.length_toList,y];simp;omega
   rw[e,List.range_eq_range',<-List.range'_append_1,<-List.range'_append_1]
   have h9:ops[l1.length]?=some o:=by rw[<-Array.getElem?_toList,y];simp
   refine Br ?_ _ l1 0 σ κ φ a w (fun j o' hj=> ?_) k1 D G
   ·rintro z s0 h4 a1 w1 h5 ⟨r0,r6,r1⟩
    simp only[VD,List.range'_one,List.singleton_append,wpOps,h9]
    simp only[l4,Vj,Vz,ga] at k2
    obtain⟨L,⟨⟨J,s4⟩,m⟩⟩:=k2
    have h1:Region.wanted o (yielded ops a1.tmps)=true:=by simp[Region.wanted,L]
    rw[h1,Wy rfl]
    refine .inl ?_
    obtain⟨od,v8,s5,h3,r3,s6⟩:=o
    simp only at J m L
    split at m
    ·rename_i V as ts
     simp only[Vj] at m
     have hX:=aq h5 m.1
     have hA:=kL h5 m.2
     simp only[ev,al,bf,aM] at hX
     obtain⟨caps,hX,rfl⟩:=hX
     have U:=Al (P:=P) (w:=w1) (a:=a1) (args:=as) (ts:=ts) (caps:=[]) hX h6 od s5 h3 r3 s6
     unfold Oper.wp
     rw[U,Oper.upon_enter]
     refine calls_of_wp C hb ?_
     have s7:=hA.length
     have s8:=h5.enter hA N (by rw[s7];simpa using I)
     obtain⟨qh,w4,r9⟩:=((Np b).trans r6) _ _ _ _ _ s8
     have fin:∀ h2 r7 s1 a3 w3,dp (Nq c a1 N) h2 r7 s1 a3 w3->(∃ O,bt h2 O/\∃ xs,IQ O qs=some xs/\∃ r0,bt (xU (sw 100000 q) (Di N dst (mY xs) O)) r0/\aI P (Q .normal) (sos.drop (k+1)) r0)->
       a3.defers=[]/\∃ v,(results fn a3.tmps).run P w3= .ok v w3/\wpOps P ops R (List.range' (l1.length+1) l2.length) (a1.put od v) w3:=by
      rintro h2 r7 s1 a3 w3 r5 ⟨O,hi,xs,r4,s9,u0,u⟩
      obtain⟨u1,u2,s2⟩:=hi _ _ _ _ _ r5
      obtain⟨X,h0,T⟩:=JE s2 F r4
      refine⟨r5.defers,_,Bu h0, ?_⟩
      have E:=s2.leave h5.ntmps h5.defers
      have r2:dp c (Di N dst (mY xs) O) u1 u2 (a1.put od (if h:X.toArray.size=1 then X.toArray[0] else .tuple X.toArray)) w3:=by
       subst J
       cases od with
       |none=>exact E
       |some d=>
        have hd:d<c.N:=by simpa using s4
        exact E.putS hd (LE T)
      obtain⟨u3,u4,u5⟩:=((Np b).trans u0) _ _ _ _ _ r2
      exact Am (K:=Q .normal) (fun O W h7 a' w' h8 hk=>Y.1 _ _ _ _ _ h8 hk) _ l2 (l1.length+1) s9 u3 u4 _ w3 (fun j o' hj=>by
       rw[<-Array.getElem?_toList,y,VP oM]
       rw[show l1.length+1+j - l1.length=j+1 by omega]
       simpa using hj) k3 u5 u
     have u6:(Nq c a1 N).N=N:=rfl
     have u7:({tmps:=(as.toList.map a1.eval++[]).toArray++Array.replicate (fn.ntmps - (as.toList.map a1.eval++[]).toArray.size) undef,defers:=[]}:Act)={tmps:=(as.toList.map a1.eval).toArray++Array.replicate (N - (as.toList.map a1.eval).toArray.size) undef,defers:=[]}:=by
      rw[hN,VL]
     rw[u7]
     exact r1 p (Nq c a1 N) bc _ (by rw[u6];exact r) ⟨fun σ κ φ a w' h8 hq=>fin σ κ φ a w' h8 hq,fun i σ κ φ a w' h8 hq=>hq.elim,fun σ κ φ a w' h8 hq=>fin σ κ φ a w' h8 hq⟩ _ _ _ _ r9
    ·cases m
   ·rw[VD,<-Array.getElem?_toList,y,V7 (Vr.1 hj).1];exact hj
theorem PG {K:AX->St->Prop} {M:St} (hi:bt (xU (sw 100000 q) (Nr N (args.map (ev σ.s)) σ)) M) (G:AW P x K M):UE P q N args x K σ:=⟨M,hi,G⟩
theorem RN {M:St} (hx:IQ σ qs=some xs) (hi:bt (xU (sw 100000 q) (Di N dst (mY xs) σ)) M) (hk:aI P K post M):RM P q N dst qs post K .normal σ:=⟨σ,bt.refl _,xs,hx,M,hi,hk⟩
theorem RP {X:SC} {pre:List SO} (q:Nat) (hX:X= .inl k sos N x qs) (hk:sos[k]?=some (.p dst (.f f) args)) (d:sos.take k=pre) (u:sos.drop (k+1)=post) (b:100000<=q) (G:aI P (UE P q N args x (RM P q N dst qs post (Q .normal))) pre σ):AW P X Q σ:=by
 subst hX d u;exact Tp hk b G
end
section
variable {P:Program} {B:SC} {Q:AX->St->Prop} {s:Nat->SV} {h:Nat->Ch} {α β:Type} {H:α->List DV} {A:β->List DV} {ms S:List bH} {l:List α}
theorem Ns {d:Nat} (f t:Nat) {fld:α->List β} {cells:α->List SV} {x:α} (Y:s t= .vref id sz i d) (hh:h id= .vec e sz (ar ms H l)) (hx:l[i]?=some x) (j:ms[off]?=some (.sl e' (List.replicate n' .sh))) (hd:∀ x,(H x)[off]?=some (.slice ((fld x).map A))) (hc:∀ x,(bA ms (H x)).set off (.vec f)=cells x) (U:id≠f) (F:∀ b,(A b).length=n') (hk:AW P B Q ⟨bG f .any s,ap (ap (bK f .any h) id (.vec e sz ((ar ms H l).set i (cells x)))) f (.vec e' n' (aY A (fld x)))⟩):AW P B Q ⟨s,h⟩:=by
 rw[<-hc x] at hk
 have h1:=rB (s:=s) (f:=f) hh hx j (hd x) U
 rw[p8 F,VE] at h1
 exact p2 h1 hk
theorem Ky {R:Type} {r:R} (f d:Nat) {n:Int} {k:IntKind} {kk:α->Option R} {fld:α->List β} {cells:α->List SV} (Z:(aV l n).bind kk=some r) (hi:s d= .d (.int k n)) (hh:h id= .vec e sz (ar ms H l)) (j:ms[off]?=some (.sl e' S)) (hn:S.length=n') (hd:∀ x,(H x)[off]?=some (.slice ((fld x).map A))) (hc:∀ x,(bA ms (H x)).set off (.vec f)=cells x) (U:id≠f) (hk:∀ x,aV l n=some x->kk x=some r->AW P B Q ⟨bG f .any s,ap (ap (bK f .any h) id (.vec e sz ((ar ms H l).set n.toNat (cells x)))) f (.vec e' n' (ar S A (fld x)))⟩):AW P B Q ⟨s,h⟩:=by
 subst hn
 cases he:aV l n with
 |none=>rw[he] at Z;cases Z
 |some x=>
  rw[he] at Z
  have h1:=rB (s:=s) (f:=f) hh (jk he) j (hd x) U
  rw[hc x] at h1
  exact p2 h1 (hk x he Z)
theorem rS {o:List (List SV)} {cells:List SV} {x x':α} {l':List β} (hj:h f= .vec e' n' o) (hh:h id= .vec e sz ((ar ms H l).set i cells)) (hx:l[i]?=some x) (hc:(bA ms (H x)).set off (.vec f)=cells) (D:bv o (ar S A l')) (j:ms[off]?=some (.sl e' S)) (hn:S.length=n') (F:∀ b,(A b).length=n') (h9:off<(H x).length) (hy:H x'=(H x).set off (.slice (l'.map A))) (U:id≠f):
  bt ⟨s,h⟩ ⟨bG f .any s,ap (ap (bK f .any h) id (.vec e sz (ar ms H (l.set i x')))) f .dead⟩:=by
 subst hc
 exact DQ hh hx hj D hn j (by rw[hn];exact F) h9 hy U
end
theorem zk {β:Type} {H:β->List DV} {x:SV} (h1:x= .nils):Hh x (.own (.sl e ms) (.slice (List.map H ([]:List β)))):= .inr ⟨h1,_,_,rfl⟩
theorem RQ {P:Program} {x:α} {dst:Nat} {c:SV} {y:SX} (Y:ev s y= .vref id sz i off) (hh:h id= .vec e sz (ar ms H l)) (hx:l[i]?=some x) (hc:(bA ms (H x))[off]?=some c) (r2:c.noOwn=true) (hk:aI P K sos ⟨ap s dst c,h⟩):aI P K (.r dst (.ld1 y)::sos) ⟨s,h⟩:=by
 refine jj (p:=sz=sz) (v:=c) ?_ rfl hk
 simp only[rd,Y,hh,rA hx,hc,r2,VW]
theorem nQ {r0:List SV} (id:Nat) (ms:List bH) (H:α->List DV) (hh:h id= .vec e sz [r0]) (D:bv [r0] (ar ms H l)):bt ⟨s,h⟩ ⟨s,ap h id (.vec e sz (ar ms H l))⟩:=
 kg (rows:=[]) (ys:=[r0]) id ms H hh D
theorem Jz (π:Nat->Nat):∀ (l:List DV),ph π (dR l)=dR l
 |[]=>rfl
 |d::l=>by
  have:=Jz π l
  simp only[dR] at this
  simp only[dR,VF,ph,pH,this]
theorem An (π:Nat->Nat):∀ (ms:List bH) (J:List DV),ph π (bA ms J)=bA ms J
 |[],J=>by simp[bA,ph]
 |m::ms,[]=>by simp[bA,ph]
 |m::ms,d::J=>by
  have:=An π ms J
  simp only[bA] at this
  simp only[bA,Xf,ph,this]
  cases m<;>rfl
theorem LF (π:Nat->Nat) (H:α->List DV) (l:List α):yt π (aY H l)=aY H l:=by
 simp only[yt,aY,WZ]
 exact Wc fun a _=>Jz π (H a)
theorem JA (π:Nat->Nat) (ms:List bH) (H:α->List DV) (l:List α):yt π (ar ms H l)=ar ms H l:=by
 simp only[yt,ar,WZ]
 exact Wc fun a _=>An π ms (H a)
theorem Nu (π:Nat->Nat) (rows:List (List SV)) (i:Nat) (r:List SV):yt π (rows.set i r)=(yt π rows).set i (ph π r):=by simp only[yt,List.map_set]
theorem LG {K V:Type} {G:K->DV} {f:V->DV} (π:Nat->Nat) (W:List (K×V)):EI π (nz G (fun v=> .d (f v)) W)=nz G (fun v=> .d (f v)) W:=by
 simp only[EI,nz,WZ];rfl
theorem Nv {K:Type} {G:K->DV} (π:Nat->Nat) (W:List (K×List α)):EI π (nz G (Ty e ms H) W)=nz G (Ty e ms H) W:=by
 simp only[EI,nz,WZ];rfl
theorem Nw (π:Nat->Nat):yt π []=[]:=rfl
theorem LH (π:Nat->Nat) (r:List SV) (l:List (List SV)):yt π (r::l)=ph π r::yt π l:=rfl
theorem Nx (π:Nat->Nat):EI π []=[]:=rfl
theorem PH (π:Nat->Nat) (σ:St) (i:Nat):(xU π σ).s i=pH π (σ.s i):=rfl
theorem PI (π:Nat->Nat) (σ:St) (i:Nat):(xU π σ).h i=PE π (σ.h (π i)):=rfl
theorem RR (N:Nat) (xs:List SV) (σ:St) (i:Nat):(Nr N xs σ).s i=if i<N then(match xs[i]? with|some x=>x|none=> .d .any) else σ.s (i - N):=rfl
theorem RS (N:Nat) (xs:List SV) (σ:St) (i:Nat):(Nr N xs σ).h i=σ.h i:=rfl
theorem PJ (N d:Nat) (v:SV) (σ:St) (i:Nat):(Di N (some d) v σ).s i=if i=d then v else σ.s (N+i):=rfl
theorem Ny (N:Nat) (v:SV) (σ:St) (i:Nat):(Di N none v σ).s i=σ.s (N+i):=rfl
theorem PK (N:Nat) (d:Option Nat) (v:SV) (σ:St) (i:Nat):(Di N d v σ).h i=σ.h i:=rfl
attribute [push_cast] pH ph PE Jz An LF JA Nu LG Nv Nw LH Nx PH PI RR RS PJ Ny PK sw IQ RV.sv mY
theorem GM {rows:List (List SV)} (h:(rows.all fun q=>q.length==sz)=true):∀ r∈rows,r.length=sz:=fun q hq=>by have:=VN.1 h q hq;simpa using this
