/-
  My text.
-/
import Derived.Test.YtgmnipfafmphaaaGreatDoorSXEngA
namespace Go.Proofs.YtgmnipfafmphaaaGreatDoor
set_option linter.unusedVariables false
open Go.RowKit
inductive SV where
 |d (v:DV)
 |nils
 |lit (sz n:Nat) (cs:List SV)
 |agg (cs:List SV)
 |tup (cs:List SV)
 |ref (id off:Nat)
 |vec (id:Nat)
 |vref (id sz i off:Nat)
 |mp (id:Nat)
 |own (m:bH) (v:DV)
variable {A:Nat->Prop} {B:Nat} {M:Nat->Prop} {a:Act} {dst id:Nat} {t:Nat×IntKind×List Int} {v:Value} {w w':World} {x:SV} {α:Type} {κ:Nat->Value} {φ:Nat->List Nat}
def f_ {α:Type} (sz:Nat):Nat->List α->List (List α)
 |0,_=>[]
 |n+1,l=>l.take sz::f_ sz n (l.drop sz)
theorem gF {α:Type} (sz:Nat):∀ (n:Nat) (l:List α),(f_ sz n l).length=n
 |0,_=>rfl
 |n+1,l=>by simp[f_,gF sz n]
theorem ot {α:Type} (sz:Nat):∀ (n:Nat) (l:List α),l.length=n * sz->(f_ sz n l).flatten=l
 |0,l,h=>by simp at h;subst h;rfl
 |n+1,l,h=>by
  rw[WA] at h
  simp only[f_,V4]
  rw[ot sz n _ oT,VH]
theorem uq {α:Type} (sz:Nat):∀ (n:Nat) (l:List α),l.length=n * sz->∀ r∈f_ sz n l,r.length=sz
 |0,l,_,r,D=>by simp[f_] at D
 |n+1,l,h,r,D=>by
  rw[WA] at h
  simp only[f_,VK] at D
  rcases D with rfl|D
  ·simp;omega
  ·exact uq sz n _ oT r D
mutual
def SV.toDV:SV->Option DV
 | .d v=>some v
 | .nils=>some (.slice [])
 | .lit sz n cs=>match SV.toDVs cs with|some xs=>some (.slice (f_ sz n xs))|none=>none
 | .agg cs=>match SV.toDVs cs with|some xs=>some (.agg xs)|none=>none
 | .tup cs=>match SV.toDVs cs with|some xs=>some (.tup xs)|none=>none
 | .ref _ _=>none
 | .vec _=>none
 | .vref _ _ _ _=>none
 | .mp _=>none
 | .own _ _=>none
def SV.toDVs:List SV->Option (List DV)
 |[]=>some []
 |c::cs=>match SV.toDV c,SV.toDVs cs with|some x,some xs=>some (x::xs)|_,_=>none
end
inductive Ch where
 |dead
 |box (cells:List SV)
 |vec (e sz:Nat) (rows:List (List SV))
 |map (kk:KK) (kv:List (DV×SV))
 |bld (T e:Nat) (bs:List UInt8)
structure St where
 s:Nat->SV
 h:Nat->Ch
variable {σ:St}
def ap (f:Nat->α) (i:Nat) (v:α):Nat->α:=fun j=>if j=i then v else f j
theorem aC (f:Nat->α) (i:Nat) (v:α):ap f i v i=v:=by simp[ap]
theorem bh (f:Nat->α) (i j:Nat) (v:α) (h:j≠i):ap f i v j=f j:=by simp[ap,h]
mutual
def al (w:World) (M:Nat->Prop) (κ:Nat->Value):SV->Value->Prop
 | .d v,u=>bf w M v u
 | .nils,u=>u= .slice none 0 0
 | .lit sz n cs,u=>∃ b,∃ vs:List Value,u= .slice (some ⟨b,0,none⟩) n n/\¬ M b/\b<w.heap.size/\vs.length=n * sz/\(∀ x∈vs,x.oneCell'=true)/\(∀ j v,vs[j]?=some v->w.cell? ⟨b,j,none⟩=some v)/\av w M κ cs vs
 | .agg cs,u=>∃ vs:List Value,u= .agg vs.toArray/\(∀ x∈vs,x.oneCell'=true)/\av w M κ cs vs
 | .tup cs,u=>∃ vs:List Value,u= .tuple vs.toArray/\av w M κ cs vs
 | .ref id off,u=>∃ b,κ id= .pointer (some ⟨b,0,none⟩)/\u= .pointer (some ⟨b,off,none⟩)
 | .vec id,u=>u=κ id
 | .vref id sz i off,u=>∃ b len N,κ id= .slice (some ⟨b,0,none⟩) len N/\u= .pointer (some ⟨b,i * sz+off,none⟩)
 | .mp id,u=>u=κ id
 | .own _ _,_=>False
def av (w:World) (M:Nat->Prop) (κ:Nat->Value):List SV->List Value->Prop
 |[],vs=>vs=[]
 |c::cs,vs=>∃ u X,vs=u::X/\al w M κ c u/\av w M κ cs X
end
mutual
theorem al.ext {w w':World} {M M':Nat->Prop} {κ:Nat->Value} (h:mG w M w' M'):∀ (x:SV) (v:Value),al w M κ x v->al w' M' κ x v
 | .d x,v,D=>by unfold al at *;exact D.ext h
 | .nils,v,D=>by unfold al at *;exact D
 | .lit sz n cs,v,D=>by
  unfold al at *
  obtain⟨b,vs,h1,h2,E,h4,h5,h6,h7⟩:=D
  exact⟨b,vs,h1,(h.keep b E h2).2,V_ E h.size,h4,h5,fun j v hj=>by rw[h.cell E h2];exact h6 j v hj,av.ext h cs vs h7⟩
 | .agg cs,v,D=>by
  unfold al at *
  obtain⟨vs,hv,h1,hl⟩:=D
  exact⟨vs,hv,h1,av.ext h cs vs hl⟩
 | .tup cs,v,D=>by
  unfold al at *
  obtain⟨vs,hv,hl⟩:=D
  exact⟨vs,hv,av.ext h cs vs hl⟩
 | .ref _ _,v,D=>by unfold al at *;exact D
 | .vec _,v,D=>by unfold al at *;exact D
 | .vref _ _ _ _,v,D=>by unfold al at *;exact D
 | .mp _,v,D=>by unfold al at *;exact D
 | .own _ _,v,D=>by unfold al at *;exact D
theorem av.ext {w w':World} {M M':Nat->Prop} {κ:Nat->Value} (h:mG w M w' M'):∀ (cs:List SV) (vs:List Value),av w M κ cs vs->av w' M' κ cs vs
 |[],vs,D=>by unfold av at *;exact D
 |c::cs,vs,D=>by
  unfold av at *
  obtain⟨u,X,hv,h1,h2⟩:=D
  exact⟨u,X,hv,al.ext h c u h1,av.ext h cs X h2⟩
end
theorem b4.of_cells {w:World} {M:Nat->Prop}:∀ {cs:List DV} {vs:List Value} {b o:Nat},aM w M cs vs->(∀ x∈vs,x.oneCell'=true)->(∀ j v,vs[j]?=some v->w.cell? ⟨b,o+j,none⟩=some v)->b4 w M cs b o
 |[],vs,b,o,_,_,_=>by unfold b4;trivial
 |c::cs,vs,b,o,h,h1,h2=>by
  unfold aM at h
  obtain⟨u,X,rfl,E,h4⟩:=h
  unfold b4
  exact⟨⟨u,by simpa using h2 0 u oS,h1 u oS,E⟩,b4.of_cells h4 (fun x hx=>h1 x (by simp[hx])) fun j v hj=>by
   have:=h2 (j+1) v (by simpa using hj)
   rwa[show o+(j+1)=o+1+j by omega] at this⟩
theorem aM.len {w:World} {M:Nat->Prop}:∀ {cs:List DV} {vs:List Value},aM w M cs vs->vs.length=cs.length
 |[],vs,h=>by unfold aM at h;simp[h]
 |c::cs,vs,h=>by unfold aM at h;obtain⟨u,X,rfl,_,h2⟩:=h;simp[aM.len h2]
theorem aM.cut {w:World} {M:Nat->Prop}:∀ {cs:List DV} {vs:List Value} (n:Nat),aM w M cs vs->aM w M (cs.take n) (vs.take n)/\aM w M (cs.drop n) (vs.drop n)
 |cs,vs,0,h=>by simpa[aM] using h
 |[],vs,n+1,h=>by unfold aM at h;subst h;simp[aM]
 |c::cs,vs,n+1,h=>by
  unfold aM at h
  obtain⟨u,X,rfl,h1,h2⟩:=h
  obtain⟨E,h4⟩:=aM.cut n h2
  simp only[Xd,XE]
  refine⟨?_,h4⟩
  unfold aM
  exact⟨u,_,rfl,h1,E⟩
theorem bd.of_cells {w:World} {M:Nat->Prop} {sz:Nat}:∀ {n:Nat} {xs:List DV} {vs:List Value} {b o:Nat},aM w M xs vs->(∀ x∈vs,x.oneCell'=true)->(∀ j v,vs[j]?=some v->w.cell? ⟨b,o+j,none⟩=some v)->xs.length=n * sz->bd w M (f_ sz n xs) b o sz
 |0,xs,vs,b,o,_,_,_,_=>by unfold f_ bd;trivial
 |n+1,xs,vs,b,o,h,h1,h2,hl=>by
  rw[WA] at hl
  obtain⟨E,h4⟩:=h.cut sz
  unfold f_ bd
  refine⟨by simp;omega,b4.of_cells E (fun x hx=>h1 x (VU hx)) fun j v hj=>h2 j v ?_,bd.of_cells h4 (fun x hx=>h1 x (WD hx)) (fun j v hj=> ?_) oT⟩
  ·rw[WE] at hj;split at hj
   ·exact hj
   ·cases hj
  ·rw[Wp] at hj
   have:=h2 _ v hj
   rwa[show o+(sz+j)=o+sz+j by omega] at this
mutual
theorem al.toDV {w:World} {M:Nat->Prop} {κ:Nat->Value}:∀ (x:SV) (v:Value) (d:DV),al w M κ x v->x.toDV=some d->bf w M d v
 | .d x,v,d,D,hd=>by
  simp only[SV.toDV,Vi] at hd
  subst hd;unfold al at D;exact D
 | .nils,v,d,D,hd=>by
  simp only[SV.toDV,Vi] at hd
  subst hd;unfold al at D;subst D;unfold bf
  exact⟨none,0,rfl,Vs _,fun _=>rfl,.inl rfl⟩
 | .lit sz n cs,v,d,D,hd=>by
  unfold SV.toDV at hd
  unfold al at D
  obtain⟨b,vs,h1,h2,E,h4,h5,h6,h7⟩:=D
  cases hc:SV.toDVs cs with
  |none=>simp[hc] at hd
  |some xs=>
   simp only[hc,Vi] at hd
   subst hd
   have hl:=av.toDVs cs vs xs h7 hc
   unfold bf
   refine⟨some ⟨b,0,none⟩,n,by rw[gF];exact h1,by rw[gF];exact Vs _,by simp,.inr ⟨b,0,sz,rfl,h2,E, ?_⟩⟩
   exact bd.of_cells hl h5 (fun j v hj=>by rw[VD];exact h6 j v hj) (by rw[<-hl.len];exact h4)
 | .agg cs,v,d,D,hd=>by
  unfold SV.toDV at hd
  unfold al at D
  obtain⟨vs,hv,h1,hl⟩:=D
  cases hc:SV.toDVs cs with
  |none=>simp[hc] at hd
  |some xs=>
   simp only[hc,Vi] at hd
   subst hd
   unfold bf
   exact⟨vs,hv,h1,av.toDVs cs vs xs hl hc⟩
 | .tup cs,v,d,D,hd=>by
  unfold SV.toDV at hd
  unfold al at D
  obtain⟨vs,hv,hl⟩:=D
  cases hc:SV.toDVs cs with
  |none=>simp[hc] at hd
  |some xs=>
   simp only[hc,Vi] at hd
   subst hd
   unfold bf
   exact⟨vs,hv,av.toDVs cs vs xs hl hc⟩
 | .ref _ _,v,d,D,hd=>by simp[SV.toDV] at hd
 | .vec _,v,d,D,hd=>by simp[SV.toDV] at hd
 | .vref _ _ _ _,v,d,D,hd=>by simp[SV.toDV] at hd
 | .mp _,v,d,D,hd=>by simp[SV.toDV] at hd
 | .own _ _,v,d,D,hd=>by simp[SV.toDV] at hd
theorem av.toDVs {w:World} {M:Nat->Prop} {κ:Nat->Value}:∀ (cs:List SV) (vs:List Value) (J:List DV),av w M κ cs vs->SV.toDVs cs=some J->aM w M J vs
 |[],vs,J,D,hd=>by
  simp only[SV.toDVs,Vi] at hd
  subst hd;unfold av at D;unfold aM;exact D
 |c::cs,vs,J,D,hd=>by
  unfold SV.toDVs at hd
  unfold av at D
  obtain⟨u,X,hv,h1,h2⟩:=D
  cases hc:SV.toDV c with
  |none=>simp[hc] at hd
  |some x=>
   cases r3:SV.toDVs cs with
   |none=>simp[hc,r3] at hd
   |some xs=>
    simp only[hc,r3,Vi] at hd
    subst hd
    unfold aM
    exact⟨u,X,hv,al.toDV c u x h1 hc,av.toDVs cs X xs h2 r3⟩
end
mutual
def aT (w:World) (M:Nat->Prop) (κ:Nat->Value):SV->Value->List Nat->Prop
 | .own m d,u,F=>f8 w M m d u F
 | .agg cs,u,F=>∃ vs:List Value,u= .agg vs.toArray/\(∀ x∈vs,x.oneCell'=true)/\az w M κ cs vs F
 | .tup cs,u,F=>∃ vs:List Value,u= .tuple vs.toArray/\az w M κ cs vs F
 | .d x,u,F=>F=[]/\al w M κ (.d x) u
 | .nils,u,F=>F=[]/\al w M κ .nils u
 | .lit sz n cs,u,F=>F=[]/\al w M κ (.lit sz n cs) u
 | .ref i o,u,F=>F=[]/\al w M κ (.ref i o) u
 | .vec i,u,F=>F=[]/\al w M κ (.vec i) u
 | .vref i s k o,u,F=>F=[]/\al w M κ (.vref i s k o) u
 | .mp i,u,F=>F=[]/\al w M κ (.mp i) u
def az (w:World) (M:Nat->Prop) (κ:Nat->Value):List SV->List Value->List Nat->Prop
 |[],vs,F=>vs=[]/\F=[]
 |c::cs,vs,F=>∃ u X N R,vs=u::X/\F=N++R/\aT w M κ c u N/\az w M κ cs X R
end
mutual
theorem aT.ext {w w':World} {M M':Nat->Prop} {κ:Nat->Value} (h:mG w M w' M'):∀ (x:SV) (v:Value) (F:List Nat),(∀ b∈F,w'.heap[b]?=w.heap[b]?)->aT w M κ x v F->aT w' M' κ x v F
 | .own m d,v,F,hk,D=>by unfold aT at *;exact f8.ext h m d v F hk D
 | .agg cs,v,F,hk,D=>by
  unfold aT at *
  obtain⟨vs,hv,h1,hl⟩:=D
  exact⟨vs,hv,h1,az.ext h cs vs F hk hl⟩
 | .tup cs,v,F,hk,D=>by
  unfold aT at *
  obtain⟨vs,hv,hl⟩:=D
  exact⟨vs,hv,az.ext h cs vs F hk hl⟩
 | .d _,v,F,hk,D=>by unfold aT at *;exact⟨D.1,D.2.ext h⟩
 | .nils,v,F,hk,D=>by unfold aT at *;exact⟨D.1,D.2.ext h⟩
 | .lit _ _ _,v,F,hk,D=>by unfold aT at *;exact⟨D.1,D.2.ext h⟩
 | .ref _ _,v,F,hk,D=>by unfold aT at *;exact⟨D.1,D.2.ext h⟩
 | .vec _,v,F,hk,D=>by unfold aT at *;exact⟨D.1,D.2.ext h⟩
 | .vref _ _ _ _,v,F,hk,D=>by unfold aT at *;exact⟨D.1,D.2.ext h⟩
 | .mp _,v,F,hk,D=>by unfold aT at *;exact⟨D.1,D.2.ext h⟩
theorem az.ext {w w':World} {M M':Nat->Prop} {κ:Nat->Value} (h:mG w M w' M'):∀ (cs:List SV) (vs:List Value) (F:List Nat),(∀ b∈F,w'.heap[b]?=w.heap[b]?)->az w M κ cs vs F->az w' M' κ cs vs F
 |[],vs,F,_,D=>by unfold az at *;exact D
 |c::cs,vs,F,hk,D=>by
  unfold az at *
  obtain⟨u,X,N,R,hv,rfl,h1,h2⟩:=D
  exact⟨u,X,N,R,hv,rfl,aT.ext h c u N (fun b hb=>hk b (by simp[hb])) h1,az.ext h cs X R (fun b hb=>hk b (by simp[hb])) h2⟩
end
mutual
theorem aT.of_S {w:World} {M:Nat->Prop} {κ:Nat->Value}:∀ (x:SV) (v:Value),al w M κ x v->aT w M κ x v []
 | .own m d,v,D=>by unfold al at D;exact D.elim
 | .agg cs,v,D=>by
  unfold al at D;unfold aT
  obtain⟨vs,hv,h1,hl⟩:=D
  exact⟨vs,hv,h1,az.of_S cs vs hl⟩
 | .tup cs,v,D=>by
  unfold al at D;unfold aT
  obtain⟨vs,hv,hl⟩:=D
  exact⟨vs,hv,az.of_S cs vs hl⟩
 | .d _,v,D=>by unfold aT;exact⟨rfl,D⟩
 | .nils,v,D=>by unfold aT;exact⟨rfl,D⟩
 | .lit _ _ _,v,D=>by unfold aT;exact⟨rfl,D⟩
 | .ref _ _,v,D=>by unfold aT;exact⟨rfl,D⟩
 | .vec _,v,D=>by unfold aT;exact⟨rfl,D⟩
 | .vref _ _ _ _,v,D=>by unfold aT;exact⟨rfl,D⟩
 | .mp _,v,D=>by unfold aT;exact⟨rfl,D⟩
theorem az.of_S {w:World} {M:Nat->Prop} {κ:Nat->Value}:∀ (cs:List SV) (vs:List Value),av w M κ cs vs->az w M κ cs vs []
 |[],vs,D=>by unfold av at D;unfold az;exact⟨D,rfl⟩
 |c::cs,vs,D=>by
  unfold av at D;unfold az
  obtain⟨u,X,hv,h1,h2⟩:=D
  exact⟨u,X,[],[],hv,rfl,aT.of_S c u h1,az.of_S cs X h2⟩
end
mutual
def SV.noOwn:SV->Bool
 | .own _ _=>false
 | .agg cs=>SV.noOwns cs
 | .tup cs=>SV.noOwns cs
 | .d _=>true
 | .nils=>true
 | .lit _ _ _=>true
 | .ref _ _=>true
 | .vec _=>true
 | .vref _ _ _ _=>true
 | .mp _=>true
def SV.noOwns:List SV->Bool
 |[]=>true
 |c::cs=>SV.noOwn c&&SV.noOwns cs
end
mutual
theorem aT.to_S {w:World} {M:Nat->Prop} {κ:Nat->Value}:∀ (x:SV) (v:Value) (F:List Nat),x.noOwn=true->aT w M κ x v F->al w M κ x v/\F=[]
 | .own m d,v,F,hn,D=>by simp[SV.noOwn] at hn
 | .agg cs,v,F,hn,D=>by
  unfold aT at D
  unfold al
  obtain⟨vs,hv,h1,hl⟩:=D
  obtain⟨h2,E⟩:=az.to_S cs vs F (by simpa[SV.noOwn] using hn) hl
  exact⟨⟨vs,hv,h1,h2⟩,E⟩
 | .tup cs,v,F,hn,D=>by
  unfold aT at D
  unfold al
  obtain⟨vs,hv,hl⟩:=D
  obtain⟨h2,E⟩:=az.to_S cs vs F (by simpa[SV.noOwn] using hn) hl
  exact⟨⟨vs,hv,h2⟩,E⟩
 | .d _,v,F,hn,D=>by unfold aT at D;exact⟨D.2,D.1⟩
 | .nils,v,F,hn,D=>by unfold aT at D;exact⟨D.2,D.1⟩
 | .lit _ _ _,v,F,hn,D=>by unfold aT at D;exact⟨D.2,D.1⟩
 | .ref _ _,v,F,hn,D=>by unfold aT at D;exact⟨D.2,D.1⟩
 | .vec _,v,F,hn,D=>by unfold aT at D;exact⟨D.2,D.1⟩
 | .vref _ _ _ _,v,F,hn,D=>by unfold aT at D;exact⟨D.2,D.1⟩
 | .mp _,v,F,hn,D=>by unfold aT at D;exact⟨D.2,D.1⟩
theorem az.to_S {w:World} {M:Nat->Prop} {κ:Nat->Value}:∀ (cs:List SV) (vs:List Value) (F:List Nat),SV.noOwns cs=true->az w M κ cs vs F->av w M κ cs vs/\F=[]
 |[],vs,F,hn,D=>by unfold az at D;unfold av;exact D
 |c::cs,vs,F,hn,D=>by
  unfold az at D;unfold av
  obtain⟨u,X,N,R,hv,rfl,h1,h2⟩:=D
  simp only[SV.noOwns,Vj] at hn
  obtain⟨k1,rfl⟩:=aT.to_S c u N hn.1 h1
  obtain⟨k2,rfl⟩:=az.to_S cs X R hn.2 h2
  exact⟨⟨u,X,hv,k1,k2⟩,rfl⟩
end
def QR (κ:Nat->Value):Prop:=∀ id,(κ id).oneCell'=true
def bQ (w:World) (M:Nat->Prop) (κ:Nat->Value) (kk:KK):List (DV×SV)->List MapEntry->List Nat->Prop
 |[],es,F=>es=[]/\F=[]
 |(k,c)::kv,es,F=>∃ e z N R,es=e::z/\F=N++R/\kk.fits k=true/\k_ k=some e.key/\aT w M κ c e.val N/\bQ w M κ kk kv z R
def lV (w:World) (M:Nat->Prop) (κ:Nat->Value) (id:Nat):Ch->List Nat->Prop
 | .dead,F=>F=[]
 | .box cs,F=>∃ b T vs G,κ id= .pointer (some ⟨b,0,none⟩)/\w.heap[b]?=some (.cells (List.toArray vs) T (0,0))/\(∀ x∈vs,x.oneCell'=true)/\az w M κ cs vs G/\F=b::G
 | .vec e sz rows,F=>∃ xs G,w.ownsRow 0 e sz (κ id) rows.length xs/\(∀ x∈xs,x.oneCell'=true)/\(∀ r∈rows,r.length=sz)/\az w M κ rows.flatten xs G/\F=gT (κ id)++G
 | .map kk kv,F=>∃ r es K G,κ id= .map (some r)/\w.heap[r]?=some (.map (List.toArray es) K)/\Ja es K/\bQ w M κ kk kv es G/\F=r::G
 | .bld T e bs,F=>A4 w T e bs (κ id) F
def Tl:List (Nat×IntKind×List Int):=[(4,.u8,[240,240,240,240,240,240,240,240,240,240,240,240,240,240,240,240,240,240,240,240,240,240,240,240,240,240,240,240,240,240,240,240,240,240,240,240,240,240,240,240,240,240,240,240,240,240,240,240,240,240,240,240,240,240,240,240,240,240,240,240,240,240,240,240,240,240,240,240,240,240,240,240,240,240,240,240,240,240,240,240,240,240,240,240,240,240,240,240,240,240,240,240,240,240,240,240,240,240,240,240,240,240,240,240,240,240,240,240,240,240,240,240,240,240,240,240,240,240,240,240,240,240,240,240,240,240,240,240,241,241,241,241,241,241,241,241,241,241,241,241,241,241,241,241,241,241,241,241,241,241,241,241,241,241,241,241,241,241,241,241,241,241,241,241,241,241,241,241,241,241,241,241,241,241,241,241,241,241,241,241,241,241,241,241,241,241,241,241,241,241,241,241,241,241,2,2,2,2,2,2,2,2,2,2,2,2,2,2,2,2,2,2,2,2,2,2,2,2,2,2,2,2,2,2,19,3,3,3,3,3,3,3,3,3,3,3,3,35,3,3,52,4,4,4,68,241,241,241,241,241,241,241,241,241,241,241]),(5,.u8,[128,191,160,191,128,159,144,191,128,143,0,0,0,0,0,0,0,0,0,0,0,0,0,0,0,0,0,0,0,0,0,0]),(0,.i64,[]),(3,.u64,(List.range 20).map fun i=>((10^i:Nat):Int))]
def rL (w:World) (t:Nat×IntKind×List Int):Prop:=
 (t.2.2=[]/\∃ m,w.cell? ⟨t.1,0,none⟩=some (.int t.2.1 m))\/(t.2.2≠[]/\∃ u f,w.heap[t.1]?=some (.cells (t.2.2.map fun z=>Value.int t.2.1 z).toArray u f))
theorem rL.at (h:rL w t) (hn:t.2.2≠[]):∃ u f,w.heap[t.1]?=some (.cells (t.2.2.map fun z=>Value.int t.2.1 z).toArray u f):=by
 rcases h with⟨h,_⟩|⟨_,h⟩
 ·exact absurd h hn
 ·exact h
theorem rL.int (h:rL w t) (hn:t.2.2=[]):∃ m,w.cell? ⟨t.1,0,none⟩=some (.int t.2.1 m):=by
 rcases h with⟨_,h⟩|⟨h,_⟩
 ·exact h
 ·exact absurd hn h
theorem rL.keep (h:rL w t) (hk:w'.heap[t.1]?=w.heap[t.1]?):rL w' t:=by
 rcases h with⟨h1,m,h2⟩|⟨h1,u,f,h2⟩
 ·refine .inl ⟨h1,m, ?_⟩
  unfold World.cell? at h2⊢
  simp only at h2⊢
  rw[hk];exact h2
 ·exact .inr ⟨h1,u,f,by rw[hk];exact h2⟩
def z6 (w:World):Prop:=∀ t∈Tl,rL w t
def Rz (A:Nat->Prop):Prop:=∀ t∈Tl,¬ A t.1
theorem rL.lt (h:rL w t):t.1<w.heap.size:=by
 rcases h with⟨_,m,h⟩|⟨_,u,f,h⟩
 ·unfold World.cell? at h
  simp only at h
  by_cases h9:t.1<w.heap.size
  ·exact h9
  ·rw[Array.getElem?_eq_none oM] at h;cases h
 ·exact(VV.1 h).1
theorem z6.below (h:z6 w) (hb:Below w.heap.size w w'):z6 w':=fun t ht=>(h t ht).keep (hb.block t.1 (h t ht).lt)
structure Cx where
 B:Nat
 w0:World
 M0:Nat->Prop
 A:Nat->Prop
 N:Nat
 gs:List Value
 good:z6 w0
 free:Rz A
 le:w0.heap.size<=B
variable {c:Cx}
structure Fa (B:Nat) (A:Nat->Prop) (w w':World):Prop where
 os:w'.os=w.os
 tape:w'.tape=w.tape
 output:w'.output=w.output
 size:w.heap.size<=w'.heap.size
 block:∀ b,b<B->¬ A b->w'.heap[b]?=w.heap[b]?
theorem Fa.refl (B:Nat) (A:Nat->Prop) (w:World):Fa B A w w:=⟨rfl,rfl,rfl,Vs _,fun _ _ _=>rfl⟩
theorem Fa.trans {a:World} (h:Fa B A w w') (k:Fa B A w' a):Fa B A w a:=
 ⟨k.os.trans h.os,k.tape.trans h.tape,k.output.trans h.output,Wz h.size k.size,fun b hb ha=>(k.block b hb ha).trans (h.block b hb ha)⟩
theorem Fa.of_below (h:Below B w w'):Fa B A w w':=⟨h.os,h.tape,h.output,h.size,fun b hb _=>h.block b hb⟩
theorem Fa.below (h:Fa B A w w') (hA:∀ b,¬ A b):Below B w w':=⟨h.os,h.tape,h.output,h.size,fun b hb=>h.block b hb (hA b)⟩
def own (c:Cx) (φ:Nat->List Nat) (b:Nat):Prop:=c.M0 b\/∃ id,b∈φ id
structure dp (c:Cx) (σ:St) (κ:Nat->Value) (φ:Nat->List Nat) (a:Act) (w:World):Prop where
 chg:Fa c.B c.A c.w0 w
 size:c.B<=w.heap.size
 m0:∀ b,c.M0 b->b<c.B/\¬ c.A b
 ntmps:a.tmps.size=c.N
 defers:a.defers=[]
 kok:QR κ
 slots:∀ i,i<c.N->al w (own c φ) κ (σ.s i) (a.tmps.getD i undef)
 ghost:∀ i v,c.gs[i]?=some v->al w (own c φ) κ (σ.s (c.N+i)) v
 chunks:∀ id,lV w (own c φ) κ id (σ.h id) (φ id)
 mine:∀ id b,b∈φ id->b<w.heap.size/\(c.B<=b\/c.A b)
 nod:∀ id,(φ id).Nodup
 sep:∀ i j b,i≠j->b∈φ i->b∈φ j->False
theorem dp.good (h:dp c σ κ φ a w):z6 w:=fun t ht=>
 (c.good t ht).keep (h.chg.block t.1 (V_ (c.good t ht).lt c.le) (c.free t ht))
theorem dp.free (h:dp c σ κ φ a w):Rz (· ∈φ id):=fun t ht hb=>by
 rcases(h.mine id t.1 hb).2 with h1|h1
 ·have:=V_ (c.good t ht).lt c.le;omega
 ·exact c.free t ht h1
theorem dp.own_lt (h:dp c σ κ φ a w) {b:Nat} (hb:own c φ b):b<w.heap.size:=by
 rcases hb with hb|⟨id,hb⟩
 ·exact V_ (h.m0 b hb).1 h.size
 ·exact(h.mine id b hb).1
theorem bQ.ext {w w':World} {M M':Nat->Prop} {κ:Nat->Value} {kk:KK} (h:mG w M w' M'):∀ (kv:List (DV×SV)) (es:List MapEntry) (F:List Nat),(∀ b∈F,w'.heap[b]?=w.heap[b]?)->bQ w M κ kk kv es F->bQ w' M' κ kk kv es F
 |[],es,F,_,D=>by unfold bQ at *;exact D
 |(k,c)::kv,es,F,hk,D=>by
  unfold bQ at *
  obtain⟨e,z,N,R,h1,rfl,h2,E,h4,h5⟩:=D
  exact⟨e,z,N,R,h1,rfl,h2,E,aT.ext h c _ N (fun b hb=>hk b (by simp[hb])) h4,bQ.ext h kv z R (fun b hb=>hk b (by simp[hb])) h5⟩
theorem lV.ext {M':Nat->Prop} {c:Ch} {F:List Nat} (h:mG w M w' M') (hk:∀ b∈F,w'.heap[b]?=w.heap[b]?) (hc:lV w M κ id c F):lV w' M' κ id c F:=by
 cases c with
 |dead=>exact hc
 |box cs=>
  obtain⟨b,T,vs,G,h1,h2,E,h4,rfl⟩:=hc
  exact⟨b,T,vs,G,h1,by rw[hk b oS];exact h2,E,az.ext h cs vs G (fun b hb=>hk b (by simp[hb])) h4,rfl⟩
 |vec e sz rows=>
  obtain⟨xs,G,h1,h2,E,h4,rfl⟩:=hc
  exact⟨xs,G,vR (fun b hb=>hk b (by simp[hb])) h1,h2,E,az.ext h _ xs G (fun b hb=>hk b (by simp[hb])) h4,rfl⟩
 |map kk kv=>
  obtain⟨r,es,K,G,h1,h2,hB,E,rfl⟩:=hc
  exact⟨r,es,K,G,h1,by rw[hk r oS];exact h2,hB,bQ.ext h kv es G (fun b hb=>hk b (by simp[hb])) E,rfl⟩
 |bld T e bs=>exact A4.ext hk hc
theorem mG.of_below (h:Below w.heap.size w w'):mG w M w' M:=⟨h.size,fun b hb Z=>⟨h.block b hb,Z⟩⟩
theorem MS (t:Array Value) (d i:Nat) (v:Value):(t.setIfInBounds d v).getD i undef=if d=i/\d<t.size then v else t.getD i undef:=by
 by_cases h:d=i
 ·subst h
  by_cases hs:d<t.size<;>simp[hs]
 ·simp[h]
theorem dp.grown (h:dp c σ κ φ a w) (hb:Below w.heap.size w w'):dp c σ κ φ a w':=by
 have Q:mG w (own c φ) w' (own c φ):=mG.of_below hb
 exact⟨h.chg.trans (Fa.of_below (hb.mono h.size)),Wz h.size hb.size,h.m0,h.ntmps,h.defers,h.kok,fun i hi=>al.ext Q _ _ (h.slots i hi),fun i v hv=>al.ext Q _ _ (h.ghost i v hv),
  fun id=>(h.chunks id).ext Q fun b s=>hb.block b (h.mine id b s).1,fun id b h6=>⟨V_ (h.mine id b h6).1 hb.size,(h.mine id b h6).2⟩,h.nod,h.sep⟩
theorem dp.putS (h:dp c σ κ φ a w) (m:dst<c.N) (hx:al w (own c φ) κ x v):dp c {σ with s:=ap σ.s dst x} κ φ (a.put (some dst) v) w:=by
 refine⟨h.chg,h.size,h.m0,by simp[Act.put,h.ntmps],h.defers,h.kok,fun i hi=> ?_,fun i v hv=>by dsimp only;rw[bh _ _ _ _ oM];exact h.ghost i v hv,h.chunks,h.mine,h.nod,h.sep⟩
 simp only[Act.put,MS]
 by_cases hd:dst=i
 ·subst hd;simp[h.ntmps,hi,aC,hx]
 ·simp only[hd,false_and,VQ]
  rw[bh _ _ _ _ (fun e=>hd e.symm)]
  exact h.slots i hi
theorem dp.put (h:dp c σ κ φ a w) (m:dst<c.N) (hb:Below w.heap.size w w') (hx:al w' (own c φ) κ x v):dp c {σ with s:=ap σ.s dst x} κ φ (a.put (some dst) v) w':=(h.grown hb).putS m hx
