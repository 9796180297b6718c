/-
  My text.
-/
import Derived.Test.YtgmnipfafmphaaaGreatDoorSYEngA
namespace Go.Proofs.YtgmnipfafmphaaaGreatDoor
set_option linter.unusedSimpArgs false
set_option linter.unusedVariables false
open Go.RowKit
inductive SV where
 |d (v:DV)
 |nils
 |lit (sz n:Nat) (cs:List SV)
 |agg (cs:List SV)
 |tup (cs:List SV)
 |ref (id off:Nat)
 |vec (id:Nat)
 |vref (id sz i off:Nat)
 |mp (id:Nat)
 |own (m:bj) (v:DV)
variable {A:Nat->Prop} {B:Nat} {M:Nat->Prop} {a:Act} {dst id:Nat} {t:Nat×IntKind×List Int} {v:Value} {w w':World} {x:SV} {α:Type} {κ:Nat->Value} {φ:Nat->List Nat}
def eQ {α:Type} (sz:Nat):Nat->List α->List (List α)
 |0,_=>[]
 |n+1,l=>l.take sz::eQ sz n (l.drop sz)
theorem ff {α:Type} (sz:Nat):∀ (n:Nat) (l:List α),(eQ sz n l).length=n
 |0,_=>rfl
 |n+1,l=>by simp[eQ,ff sz n]
theorem lx {α:Type} (sz:Nat):∀ (n:Nat) (l:List α),l.length=n * sz->(eQ sz n l).flatten=l
 |0,l,h=>by simp at h;subst h;rfl
 |n+1,l,h=>by
  rw[T8] at h
  simp only[eQ,TF]
  rw[lx sz n _ oT,Tl]
theorem q6 {α:Type} (sz:Nat):∀ (n:Nat) (l:List α),l.length=n * sz->∀ r∈eQ sz n l,r.length=sz
 |0,l,_,r,D=>by simp[eQ] at D
 |n+1,l,h,r,D=>by
  rw[T8] at h
  simp only[eQ,Tf] at D
  rcases D with rfl|D
  ·simp;omega
  ·exact q6 sz n _ oT r D
mutual
def SV.toDV:SV->Option DV
 | .d v=>some v
 | .nils=>some (.slice [])
 | .lit sz n cs=>match SV.toDVs cs with|some xs=>some (.slice (eQ sz n xs))|none=>none
 | .agg cs=>match SV.toDVs cs with|some xs=>some (.agg xs)|none=>none
 | .tup cs=>match SV.toDVs cs with|some xs=>some (.tup xs)|none=>none
 | .ref _ _=>none
 | .vec _=>none
 | .vref _ _ _ _=>none
 | .mp _=>none
 | .own _ _=>none
def SV.toDVs:List SV->Option (List DV)
 |[]=>some []
 |c::cs=>match SV.toDV c,SV.toDVs cs with|some x,some xs=>some (x::xs)|_,_=>none
end
inductive Ch where
 |dead
 |box (cells:List SV)
 |vec (e sz:Nat) (rows:List (List SV))
 |map (kk:KK) (kv:List (DV×SV))
 |bld (T e:Nat) (bs:List UInt8)
structure St where
 s:Nat->SV
 h:Nat->Ch
variable {σ:St}
def am (f:Nat->α) (i:Nat) (v:α):Nat->α:=fun j=>if j=i then v else f j
theorem ar (f:Nat->α) (i:Nat) (v:α):am f i v i=v:=by simp[am]
theorem aY (f:Nat->α) (i j:Nat) (v:α) (h:j≠i):am f i v j=f j:=by simp[am,h]
mutual
def ai (w:World) (M:Nat->Prop) (κ:Nat->Value):SV->Value->Prop
 | .d v,u=>aW w M v u
 | .nils,u=>u= .slice none 0 0
 | .lit sz n cs,u=>∃ b,∃ vs:List Value,u= .slice (some ⟨b,0,none⟩) n n/\¬ M b/\b<w.heap.size/\vs.length=n * sz/\(∀ x∈vs,x.oneCell'=true)/\(∀ j v,vs[j]?=some v->w.cell? ⟨b,j,none⟩=some v)/\an w M κ cs vs
 | .agg cs,u=>∃ vs:List Value,u= .agg vs.toArray/\(∀ x∈vs,x.oneCell'=true)/\an w M κ cs vs
 | .tup cs,u=>∃ vs:List Value,u= .tuple vs.toArray/\an w M κ cs vs
 | .ref id off,u=>∃ b,κ id= .pointer (some ⟨b,0,none⟩)/\u= .pointer (some ⟨b,off,none⟩)
 | .vec id,u=>u=κ id
 | .vref id sz i off,u=>∃ b len N,κ id= .slice (some ⟨b,0,none⟩) len N/\u= .pointer (some ⟨b,i * sz+off,none⟩)
 | .mp id,u=>u=κ id
 | .own _ _,_=>False
def an (w:World) (M:Nat->Prop) (κ:Nat->Value):List SV->List Value->Prop
 |[],vs=>vs=[]
 |c::cs,vs=>∃ u R,vs=u::R/\ai w M κ c u/\an w M κ cs R
end
mutual
theorem ai.ext {w w':World} {M M':Nat->Prop} {κ:Nat->Value} (h:jE w M w' M'):∀ (x:SV) (v:Value),ai w M κ x v->ai w' M' κ x v
 | .d x,v,D=>by unfold ai at *;exact D.ext h
 | .nils,v,D=>by unfold ai at *;exact D
 | .lit sz n cs,v,D=>by
  unfold ai at *
  obtain⟨b,vs,h1,h2,E,h4,h5,h6,h7⟩:=D
  exact⟨b,vs,h1,(h.keep b E h2).2,TJ E h.size,h4,h5,fun j v hj=>by rw[h.cell E h2];exact h6 j v hj,an.ext h cs vs h7⟩
 | .agg cs,v,D=>by
  unfold ai at *
  obtain⟨vs,hv,h1,hl⟩:=D
  exact⟨vs,hv,h1,an.ext h cs vs hl⟩
 | .tup cs,v,D=>by
  unfold ai at *
  obtain⟨vs,hv,hl⟩:=D
  exact⟨vs,hv,an.ext h cs vs hl⟩
 | .ref _ _,v,D=>by unfold ai at *;exact D
 | .vec _,v,D=>by unfold ai at *;exact D
 | .vref _ _ _ _,v,D=>by unfold ai at *;exact D
 | .mp _,v,D=>by unfold ai at *;exact D
 | .own _ _,v,D=>by unfold ai at *;exact D
theorem an.ext {w w':World} {M M':Nat->Prop} {κ:Nat->Value} (h:jE w M w' M'):∀ (cs:List SV) (vs:List Value),an w M κ cs vs->an w' M' κ cs vs
 |[],vs,D=>by unfold an at *;exact D
 |c::cs,vs,D=>by
  unfold an at *
  obtain⟨u,R,hv,h1,h2⟩:=D
  exact⟨u,R,hv,ai.ext h c u h1,an.ext h cs R h2⟩
end
theorem bw.of_cells {w:World} {M:Nat->Prop}:∀ {cs:List DV} {vs:List Value} {b o:Nat},aC w M cs vs->(∀ x∈vs,x.oneCell'=true)->(∀ j v,vs[j]?=some v->w.cell? ⟨b,o+j,none⟩=some v)->bw w M cs b o
 |[],vs,b,o,_,_,_=>by unfold bw;trivial
 |c::cs,vs,b,o,h,h1,h2=>by
  unfold aC at h
  obtain⟨u,R,rfl,E,h4⟩:=h
  unfold bw
  exact⟨⟨u,by simpa using h2 0 u oS,h1 u oS,E⟩,bw.of_cells h4 (fun x hx=>h1 x (by simp[hx])) fun j v hj=>by
   have:=h2 (j+1) v (by simpa using hj)
   rwa[show o+(j+1)=o+1+j by omega] at this⟩
theorem aC.len {w:World} {M:Nat->Prop}:∀ {cs:List DV} {vs:List Value},aC w M cs vs->vs.length=cs.length
 |[],vs,h=>by unfold aC at h;simp[h]
 |c::cs,vs,h=>by unfold aC at h;obtain⟨u,R,rfl,_,h2⟩:=h;simp[aC.len h2]
theorem aC.cut {w:World} {M:Nat->Prop}:∀ {cs:List DV} {vs:List Value} (n:Nat),aC w M cs vs->aC w M (cs.take n) (vs.take n)/\aC w M (cs.drop n) (vs.drop n)
 |cs,vs,0,h=>by simpa[aC] using h
 |[],vs,n+1,h=>by unfold aC at h;subst h;simp[aC]
 |c::cs,vs,n+1,h=>by
  unfold aC at h
  obtain⟨u,R,rfl,h1,h2⟩:=h
  obtain⟨E,h4⟩:=aC.cut n h2
  simp only[UH,U_]
  refine⟨?_,h4⟩
  unfold aC
  exact⟨u,_,rfl,h1,E⟩
theorem aQ.of_cells {w:World} {M:Nat->Prop} {sz:Nat}:∀ {n:Nat} {xs:List DV} {vs:List Value} {b o:Nat},aC w M xs vs->(∀ x∈vs,x.oneCell'=true)->(∀ j v,vs[j]?=some v->w.cell? ⟨b,o+j,none⟩=some v)->xs.length=n * sz->aQ w M (eQ sz n xs) b o sz
 |0,xs,vs,b,o,_,_,_,_=>by unfold eQ aQ;trivial
 |n+1,xs,vs,b,o,h,h1,h2,hl=>by
  rw[T8] at hl
  obtain⟨E,h4⟩:=h.cut sz
  unfold eQ aQ
  refine⟨by simp;omega,bw.of_cells E (fun x hx=>h1 x (Tv hx)) fun j v hj=>h2 j v ?_,aQ.of_cells h4 (fun x hx=>h1 x (Ua hx)) (fun j v hj=> ?_) oT⟩
  ·rw[Ub] at hj;split at hj
   ·exact hj
   ·cases hj
  ·rw[T2] at hj
   have:=h2 _ v hj
   rwa[show o+(sz+j)=o+sz+j by omega] at this
mutual
theorem ai.toDV {w:World} {M:Nat->Prop} {κ:Nat->Value}:∀ (x:SV) (v:Value) (d:DV),ai w M κ x v->x.toDV=some d->aW w M d v
 | .d x,v,d,D,hd=>by
  simp only[SV.toDV,SN] at hd
  subst hd;unfold ai at D;exact D
 | .nils,v,d,D,hd=>by
  simp only[SV.toDV,SN] at hd
  subst hd;unfold ai at D;subst D;unfold aW
  exact⟨none,0,rfl,SZ _,fun _=>rfl,.inl rfl⟩
 | .lit sz n cs,v,d,D,hd=>by
  unfold SV.toDV at hd
  unfold ai at D
  obtain⟨b,vs,h1,h2,E,h4,h5,h6,h7⟩:=D
  cases hc:SV.toDVs cs with
  |none=>simp[hc] at hd
  |some xs=>
   simp only[hc,SN] at hd
   subst hd
   have hl:=an.toDVs cs vs xs h7 hc
   unfold aW
   refine⟨some ⟨b,0,none⟩,n,by rw[ff];exact h1,by rw[ff];exact SZ _,by simp,.inr ⟨b,0,sz,rfl,h2,E, ?_⟩⟩
   exact aQ.of_cells hl h5 (fun j v hj=>by rw[Tx];exact h6 j v hj) (by rw[<-hl.len];exact h4)
 | .agg cs,v,d,D,hd=>by
  unfold SV.toDV at hd
  unfold ai at D
  obtain⟨vs,hv,h1,hl⟩:=D
  cases hc:SV.toDVs cs with
  |none=>simp[hc] at hd
  |some xs=>
   simp only[hc,SN] at hd
   subst hd
   unfold aW
   exact⟨vs,hv,h1,an.toDVs cs vs xs hl hc⟩
 | .tup cs,v,d,D,hd=>by
  unfold SV.toDV at hd
  unfold ai at D
  obtain⟨vs,hv,hl⟩:=D
  cases hc:SV.toDVs cs with
  |none=>simp[hc] at hd
  |some xs=>
   simp only[hc,SN] at hd
   subst hd
   unfold aW
   exact⟨vs,hv,an.toDVs cs vs xs hl hc⟩
 | .ref _ _,v,d,D,hd=>by simp[SV.toDV] at hd
 | .vec _,v,d,D,hd=>by simp[SV.toDV] at hd
 | .vref _ _ _ _,v,d,D,hd=>by simp[SV.toDV] at hd
 | .mp _,v,d,D,hd=>by simp[SV.toDV] at hd
 | .own _ _,v,d,D,hd=>by simp[SV.toDV] at hd
theorem an.toDVs {w:World} {M:Nat->Prop} {κ:Nat->Value}:∀ (cs:List SV) (vs:List Value) (J:List DV),an w M κ cs vs->SV.toDVs cs=some J->aC w M J vs
 |[],vs,J,D,hd=>by
  simp only[SV.toDVs,SN] at hd
  subst hd;unfold an at D;unfold aC;exact D
 |c::cs,vs,J,D,hd=>by
  unfold SV.toDVs at hd
  unfold an at D
  obtain⟨u,R,hv,h1,h2⟩:=D
  cases hc:SV.toDV c with
  |none=>simp[hc] at hd
  |some x=>
   cases U:SV.toDVs cs with
   |none=>simp[hc,U] at hd
   |some xs=>
    simp only[hc,U,SN] at hd
    subst hd
    unfold aC
    exact⟨u,R,hv,ai.toDV c u x h1 hc,an.toDVs cs R xs h2 U⟩
end
mutual
def aO (w:World) (M:Nat->Prop) (κ:Nat->Value):SV->Value->List Nat->Prop
 | .own m d,u,F=>eO w M m d u F
 | .agg cs,u,F=>∃ vs:List Value,u= .agg vs.toArray/\(∀ x∈vs,x.oneCell'=true)/\ap w M κ cs vs F
 | .tup cs,u,F=>∃ vs:List Value,u= .tuple vs.toArray/\ap w M κ cs vs F
 | .d x,u,F=>F=[]/\ai w M κ (.d x) u
 | .nils,u,F=>F=[]/\ai w M κ .nils u
 | .lit sz n cs,u,F=>F=[]/\ai w M κ (.lit sz n cs) u
 | .ref i o,u,F=>F=[]/\ai w M κ (.ref i o) u
 | .vec i,u,F=>F=[]/\ai w M κ (.vec i) u
 | .vref i s k o,u,F=>F=[]/\ai w M κ (.vref i s k o) u
 | .mp i,u,F=>F=[]/\ai w M κ (.mp i) u
def ap (w:World) (M:Nat->Prop) (κ:Nat->Value):List SV->List Value->List Nat->Prop
 |[],vs,F=>vs=[]/\F=[]
 |c::cs,vs,F=>∃ u R W F2,vs=u::R/\F=W++F2/\aO w M κ c u W/\ap w M κ cs R F2
end
mutual
theorem aO.ext {w w':World} {M M':Nat->Prop} {κ:Nat->Value} (h:jE w M w' M'):∀ (x:SV) (v:Value) (F:List Nat),(∀ b∈F,w'.heap[b]?=w.heap[b]?)->aO w M κ x v F->aO w' M' κ x v F
 | .own m d,v,F,hk,D=>by unfold aO at *;exact eO.ext h m d v F hk D
 | .agg cs,v,F,hk,D=>by
  unfold aO at *
  obtain⟨vs,hv,h1,hl⟩:=D
  exact⟨vs,hv,h1,ap.ext h cs vs F hk hl⟩
 | .tup cs,v,F,hk,D=>by
  unfold aO at *
  obtain⟨vs,hv,hl⟩:=D
  exact⟨vs,hv,ap.ext h cs vs F hk hl⟩
 | .d _,v,F,hk,D=>by unfold aO at *;exact⟨D.1,D.2.ext h⟩
 | .nils,v,F,hk,D=>by unfold aO at *;exact⟨D.1,D.2.ext h⟩
 | .lit _ _ _,v,F,hk,D=>by unfold aO at *;exact⟨D.1,D.2.ext h⟩
 | .ref _ _,v,F,hk,D=>by unfold aO at *;exact⟨D.1,D.2.ext h⟩
 | .vec _,v,F,hk,D=>by unfold aO at *;exact⟨D.1,D.2.ext h⟩
 | .vref _ _ _ _,v,F,hk,D=>by unfold aO at *;exact⟨D.1,D.2.ext h⟩
 | .mp _,v,F,hk,D=>by unfold aO at *;exact⟨D.1,D.2.ext h⟩
theorem ap.ext {w w':World} {M M':Nat->Prop} {κ:Nat->Value} (h:jE w M w' M'):∀ (cs:List SV) (vs:List Value) (F:List Nat),(∀ b∈F,w'.heap[b]?=w.heap[b]?)->ap w M κ cs vs F->ap w' M' κ cs vs F
 |[],vs,F,_,D=>by unfold ap at *;exact D
 |c::cs,vs,F,hk,D=>by
  unfold ap at *
  obtain⟨u,R,W,F2,hv,rfl,h1,h2⟩:=D
  exact⟨u,R,W,F2,hv,rfl,aO.ext h c u W (fun b hb=>hk b (by simp[hb])) h1,ap.ext h cs R F2 (fun b hb=>hk b (by simp[hb])) h2⟩
end
mutual
theorem aO.of_S {w:World} {M:Nat->Prop} {κ:Nat->Value}:∀ (x:SV) (v:Value),ai w M κ x v->aO w M κ x v []
 | .own m d,v,D=>by unfold ai at D;exact D.elim
 | .agg cs,v,D=>by
  unfold ai at D;unfold aO
  obtain⟨vs,hv,h1,hl⟩:=D
  exact⟨vs,hv,h1,ap.of_S cs vs hl⟩
 | .tup cs,v,D=>by
  unfold ai at D;unfold aO
  obtain⟨vs,hv,hl⟩:=D
  exact⟨vs,hv,ap.of_S cs vs hl⟩
 | .d _,v,D=>by unfold aO;exact⟨rfl,D⟩
 | .nils,v,D=>by unfold aO;exact⟨rfl,D⟩
 | .lit _ _ _,v,D=>by unfold aO;exact⟨rfl,D⟩
 | .ref _ _,v,D=>by unfold aO;exact⟨rfl,D⟩
 | .vec _,v,D=>by unfold aO;exact⟨rfl,D⟩
 | .vref _ _ _ _,v,D=>by unfold aO;exact⟨rfl,D⟩
 | .mp _,v,D=>by unfold aO;exact⟨rfl,D⟩
theorem ap.of_S {w:World} {M:Nat->Prop} {κ:Nat->Value}:∀ (cs:List SV) (vs:List Value),an w M κ cs vs->ap w M κ cs vs []
 |[],vs,D=>by unfold an at D;unfold ap;exact⟨D,rfl⟩
 |c::cs,vs,D=>by
  unfold an at D;unfold ap
  obtain⟨u,R,hv,h1,h2⟩:=D
  exact⟨u,R,[],[],hv,rfl,aO.of_S c u h1,ap.of_S cs R h2⟩
end
mutual
def SV.noOwn:SV->Bool
 | .own _ _=>false
 | .agg cs=>SV.noOwns cs
 | .tup cs=>SV.noOwns cs
 | .d _=>true
 | .nils=>true
 | .lit _ _ _=>true
 | .ref _ _=>true
 | .vec _=>true
 | .vref _ _ _ _=>true
 | .mp _=>true
def SV.noOwns:List SV->Bool
 |[]=>true
 |c::cs=>SV.noOwn c&&SV.noOwns cs
end
mutual
theorem aO.to_S {w:World} {M:Nat->Prop} {κ:Nat->Value}:∀ (x:SV) (v:Value) (F:List Nat),x.noOwn=true->aO w M κ x v F->ai w M κ x v/\F=[]
 | .own m d,v,F,hn,D=>by simp[SV.noOwn] at hn
 | .agg cs,v,F,hn,D=>by
  unfold aO at D
  unfold ai
  obtain⟨vs,hv,h1,hl⟩:=D
  obtain⟨h2,E⟩:=ap.to_S cs vs F (by simpa[SV.noOwn] using hn) hl
  exact⟨⟨vs,hv,h1,h2⟩,E⟩
 | .tup cs,v,F,hn,D=>by
  unfold aO at D
  unfold ai
  obtain⟨vs,hv,hl⟩:=D
  obtain⟨h2,E⟩:=ap.to_S cs vs F (by simpa[SV.noOwn] using hn) hl
  exact⟨⟨vs,hv,h2⟩,E⟩
 | .d _,v,F,hn,D=>by unfold aO at D;exact⟨D.2,D.1⟩
 | .nils,v,F,hn,D=>by unfold aO at D;exact⟨D.2,D.1⟩
 | .lit _ _ _,v,F,hn,D=>by unfold aO at D;exact⟨D.2,D.1⟩
 | .ref _ _,v,F,hn,D=>by unfold aO at D;exact⟨D.2,D.1⟩
 | .vec _,v,F,hn,D=>by unfold aO at D;exact⟨D.2,D.1⟩
 | .vref _ _ _ _,v,F,hn,D=>by unfold aO at D;exact⟨D.2,D.1⟩
 | .mp _,v,F,hn,D=>by unfold aO at D;exact⟨D.2,D.1⟩
theorem ap.to_S {w:World} {M:Nat->Prop} {κ:Nat->Value}:∀ (cs:List SV) (vs:List Value) (F:List Nat),SV.noOwns cs=true->ap w M κ cs vs F->an w M κ cs vs/\F=[]
 |[],vs,F,hn,D=>by unfold ap at D;unfold an;exact D
 |c::cs,vs,F,hn,D=>by
  unfold ap at D;unfold an
  obtain⟨u,R,W,F2,hv,rfl,h1,h2⟩:=D
  simp only[SV.noOwns,SR] at hn
  obtain⟨k1,rfl⟩:=aO.to_S c u W hn.1 h1
  obtain⟨k2,rfl⟩:=ap.to_S cs R F2 hn.2 h2
  exact⟨⟨u,R,hv,k1,k2⟩,rfl⟩
end
def O6 (κ:Nat->Value):Prop:=∀ id,(κ id).oneCell'=true
def bJ (w:World) (M:Nat->Prop) (κ:Nat->Value) (kk:KK):List (DV×SV)->List MapEntry->List Nat->Prop
 |[],es,F=>es=[]/\F=[]
 |(k,c)::kv,es,F=>∃ e z W F2,es=e::z/\F=W++F2/\kk.fits k=true/\ir k=some e.key/\aO w M κ c e.val W/\bJ w M κ kk kv z F2
def jo (w:World) (M:Nat->Prop) (κ:Nat->Value) (id:Nat):Ch->List Nat->Prop
 | .dead,F=>F=[]
 | .box cs,F=>∃ b T vs G,κ id= .pointer (some ⟨b,0,none⟩)/\w.heap[b]?=some (.cells (List.toArray vs) T (0,0))/\(∀ x∈vs,x.oneCell'=true)/\ap w M κ cs vs G/\F=b::G
 | .vec e sz rows,F=>∃ xs G,w.ownsRow 0 e sz (κ id) rows.length xs/\(∀ x∈xs,x.oneCell'=true)/\(∀ r∈rows,r.length=sz)/\ap w M κ rows.flatten xs G/\F=fz (κ id)++G
 | .map kk kv,F=>∃ r es s G,κ id= .map (some r)/\w.heap[r]?=some (.map (List.toArray es) s)/\GM es s/\bJ w M κ kk kv es G/\F=r::G
 | .bld T e bs,F=>yi w T e bs (κ id) F
def PL:List (Nat×IntKind×List Int):=[(4,.u8,[240,240,240,240,240,240,240,240,240,240,240,240,240,240,240,240,240,240,240,240,240,240,240,240,240,240,240,240,240,240,240,240,240,240,240,240,240,240,240,240,240,240,240,240,240,240,240,240,240,240,240,240,240,240,240,240,240,240,240,240,240,240,240,240,240,240,240,240,240,240,240,240,240,240,240,240,240,240,240,240,240,240,240,240,240,240,240,240,240,240,240,240,240,240,240,240,240,240,240,240,240,240,240,240,240,240,240,240,240,240,240,240,240,240,240,240,240,240,240,240,240,240,240,240,240,240,240,240,241,241,241,241,241,241,241,241,241,241,241,241,241,241,241,241,241,241,241,241,241,241,241,241,241,241,241,241,241,241,241,241,241,241,241,241,241,241,241,241,241,241,241,241,241,241,241,241,241,241,241,241,241,241,241,241,241,241,241,241,241,241,241,241,241,241,2,2,2,2,2,2,2,2,2,2,2,2,2,2,2,2,2,2,2,2,2,2,2,2,2,2,2,2,2,2,19,3,3,3,3,3,3,3,3,3,3,3,3,35,3,3,52,4,4,4,68,241,241,241,241,241,241,241,241,241,241,241]),(5,.u8,[128,191,160,191,128,159,144,191,128,143,0,0,0,0,0,0,0,0,0,0,0,0,0,0,0,0,0,0,0,0,0,0]),(0,.i64,[]),(3,.u64,(List.range 20).map fun i=>((10^i:Nat):Int))]
def n_ (w:World) (t:Nat×IntKind×List Int):Prop:=
 (t.2.2=[]/\∃ m,w.cell? ⟨t.1,0,none⟩=some (.int t.2.1 m))\/(t.2.2≠[]/\∃ u f,w.heap[t.1]?=some (.cells (t.2.2.map fun z=>Value.int t.2.1 z).toArray u f))
theorem n_.at (h:n_ w t) (hn:t.2.2≠[]):∃ u f,w.heap[t.1]?=some (.cells (t.2.2.map fun z=>Value.int t.2.1 z).toArray u f):=by
 rcases h with⟨h,_⟩|⟨_,h⟩
 ·exact absurd h hn
 ·exact h
theorem n_.int (h:n_ w t) (hn:t.2.2=[]):∃ m,w.cell? ⟨t.1,0,none⟩=some (.int t.2.1 m):=by
 rcases h with⟨_,h⟩|⟨h,_⟩
 ·exact h
 ·exact absurd hn h
theorem n_.keep (h:n_ w t) (hk:w'.heap[t.1]?=w.heap[t.1]?):n_ w' t:=by
 rcases h with⟨h1,m,h2⟩|⟨h1,u,f,h2⟩
 ·refine .inl ⟨h1,m, ?_⟩
  unfold World.cell? at h2⊢
  simp only at h2⊢
  rw[hk];exact h2
 ·exact .inr ⟨h1,u,f,by rw[hk];exact h2⟩
def vU (w:World):Prop:=∀ t∈PL,n_ w t
def PM (A:Nat->Prop):Prop:=∀ t∈PL,¬ A t.1
theorem n_.lt (h:n_ w t):t.1<w.heap.size:=by
 rcases h with⟨_,m,h⟩|⟨_,u,f,h⟩
 ·unfold World.cell? at h
  simp only at h
  by_cases X:t.1<w.heap.size
  ·exact X
  ·rw[Array.getElem?_eq_none oM] at h;cases h
 ·exact(Ts.1 h).1
theorem vU.below (h:vU w) (hb:Below w.heap.size w w'):vU w':=fun t ht=>(h t ht).keep (hb.block t.1 (h t ht).lt)
structure Cx where
 B:Nat
 w0:World
 M0:Nat->Prop
 A:Nat->Prop
 N:Nat
 gs:List Value
 good:vU w0
 free:PM A
 le:w0.heap.size<=B
variable {c:Cx}
structure CI (B:Nat) (A:Nat->Prop) (w w':World):Prop where
 os:w'.os=w.os
 tape:w'.tape=w.tape
 output:w'.output=w.output
 size:w.heap.size<=w'.heap.size
 block:∀ b,b<B->¬ A b->w'.heap[b]?=w.heap[b]?
theorem CI.refl (B:Nat) (A:Nat->Prop) (w:World):CI B A w w:=⟨rfl,rfl,rfl,SZ _,fun _ _ _=>rfl⟩
theorem CI.trans {a:World} (h:CI B A w w') (k:CI B A w' a):CI B A w a:=
 ⟨k.os.trans h.os,k.tape.trans h.tape,k.output.trans h.output,TW h.size k.size,fun b hb ha=>(k.block b hb ha).trans (h.block b hb ha)⟩
theorem CI.of_below (h:Below B w w'):CI B A w w':=⟨h.os,h.tape,h.output,h.size,fun b hb _=>h.block b hb⟩
theorem CI.below (h:CI B A w w') (hA:∀ b,¬ A b):Below B w w':=⟨h.os,h.tape,h.output,h.size,fun b hb=>h.block b hb (hA b)⟩
def own (c:Cx) (φ:Nat->List Nat) (b:Nat):Prop:=c.M0 b\/∃ id,b∈φ id
structure cW (c:Cx) (σ:St) (κ:Nat->Value) (φ:Nat->List Nat) (a:Act) (w:World):Prop where
 chg:CI c.B c.A c.w0 w
 size:c.B<=w.heap.size
 m0:∀ b,c.M0 b->b<c.B/\¬ c.A b
 ntmps:a.tmps.size=c.N
 defers:a.defers=[]
 kok:O6 κ
 slots:∀ i,i<c.N->ai w (own c φ) κ (σ.s i) (a.tmps.getD i undef)
 ghost:∀ i v,c.gs[i]?=some v->ai w (own c φ) κ (σ.s (c.N+i)) v
 chunks:∀ id,jo w (own c φ) κ id (σ.h id) (φ id)
 mine:∀ id b,b∈φ id->b<w.heap.size/\(c.B<=b\/c.A b)
 nod:∀ id,(φ id).Nodup
 sep:∀ i j b,i≠j->b∈φ i->b∈φ j->False
theorem cW.good (h:cW c σ κ φ a w):vU w:=fun t ht=>
 (c.good t ht).keep (h.chg.block t.1 (TJ (c.good t ht).lt c.le) (c.free t ht))
theorem cW.free (h:cW c σ κ φ a w):PM (· ∈φ id):=fun t ht hb=>by
 rcases(h.mine id t.1 hb).2 with h1|h1
 ·have:=TJ (c.good t ht).lt c.le;omega
 ·exact c.free t ht h1
theorem cW.own_lt (h:cW c σ κ φ a w) {b:Nat} (hb:own c φ b):b<w.heap.size:=by
 rcases hb with hb|⟨id,hb⟩
 ·exact TJ (h.m0 b hb).1 h.size
 ·exact(h.mine id b hb).1
theorem bJ.ext {w w':World} {M M':Nat->Prop} {κ:Nat->Value} {kk:KK} (h:jE w M w' M'):∀ (kv:List (DV×SV)) (es:List MapEntry) (F:List Nat),(∀ b∈F,w'.heap[b]?=w.heap[b]?)->bJ w M κ kk kv es F->bJ w' M' κ kk kv es F
 |[],es,F,_,D=>by unfold bJ at *;exact D
 |(k,c)::kv,es,F,hk,D=>by
  unfold bJ at *
  obtain⟨e,z,W,F2,h1,rfl,h2,E,h4,h5⟩:=D
  exact⟨e,z,W,F2,h1,rfl,h2,E,aO.ext h c _ W (fun b hb=>hk b (by simp[hb])) h4,bJ.ext h kv z F2 (fun b hb=>hk b (by simp[hb])) h5⟩
theorem jo.ext {M':Nat->Prop} {c:Ch} {F:List Nat} (h:jE w M w' M') (hk:∀ b∈F,w'.heap[b]?=w.heap[b]?) (hc:jo w M κ id c F):jo w' M' κ id c F:=by
 cases c with
 |dead=>exact hc
 |box cs=>
  obtain⟨b,T,vs,G,h1,h2,E,h4,rfl⟩:=hc
  exact⟨b,T,vs,G,h1,by rw[hk b oS];exact h2,E,ap.ext h cs vs G (fun b hb=>hk b (by simp[hb])) h4,rfl⟩
 |vec e sz rows=>
  obtain⟨xs,G,h1,h2,E,h4,rfl⟩:=hc
  exact⟨xs,G,sB (fun b hb=>hk b (by simp[hb])) h1,h2,E,ap.ext h _ xs G (fun b hb=>hk b (by simp[hb])) h4,rfl⟩
 |map kk kv=>
  obtain⟨r,es,s,G,h1,h2,hB,E,rfl⟩:=hc
  exact⟨r,es,s,G,h1,by rw[hk r oS];exact h2,hB,bJ.ext h kv es G (fun b hb=>hk b (by simp[hb])) E,rfl⟩
 |bld T e bs=>exact yi.ext hk hc
theorem jE.of_below (h:Below w.heap.size w w'):jE w M w' M:=⟨h.size,fun b hb Z=>⟨h.block b hb,Z⟩⟩
theorem KW (t:Array Value) (d i:Nat) (v:Value):(t.setIfInBounds d v).getD i undef=if d=i/\d<t.size then v else t.getD i undef:=by
 by_cases h:d=i
 ·subst h
  by_cases hs:d<t.size<;>simp[hs]
 ·simp[h]
theorem cW.grown (h:cW c σ κ φ a w) (hb:Below w.heap.size w w'):cW c σ κ φ a w':=by
 have Q:jE w (own c φ) w' (own c φ):=jE.of_below hb
 exact⟨h.chg.trans (CI.of_below (hb.mono h.size)),TW h.size hb.size,h.m0,h.ntmps,h.defers,h.kok,fun i hi=>ai.ext Q _ _ (h.slots i hi),fun i v hv=>ai.ext Q _ _ (h.ghost i v hv),
  fun id=>(h.chunks id).ext Q fun b s=>hb.block b (h.mine id b s).1,fun id b h6=>⟨TJ (h.mine id b h6).1 hb.size,(h.mine id b h6).2⟩,h.nod,h.sep⟩
theorem cW.putS (h:cW c σ κ φ a w) (r2:dst<c.N) (hx:ai w (own c φ) κ x v):cW c {σ with s:=am σ.s dst x} κ φ (a.put (some dst) v) w:=by
 refine⟨h.chg,h.size,h.m0,by simp[Act.put,h.ntmps],h.defers,h.kok,fun i hi=> ?_,fun i v hv=>by dsimp only;rw[aY _ _ _ _ oM];exact h.ghost i v hv,h.chunks,h.mine,h.nod,h.sep⟩
 simp only[Act.put,KW]
 by_cases hd:dst=i
 ·subst hd;simp[h.ntmps,hi,ar,hx]
 ·simp only[hd,false_and,Tq]
  rw[aY _ _ _ _ (fun e=>hd e.symm)]
  exact h.slots i hi
theorem cW.put (h:cW c σ κ φ a w) (r2:dst<c.N) (hb:Below w.heap.size w w') (hx:ai w' (own c φ) κ x v):cW c {σ with s:=am σ.s dst x} κ φ (a.put (some dst) v) w':=(h.grown hb).putS r2 hx
end Go.Proofs.YtgmnipfafmphaaaGreatDoor

