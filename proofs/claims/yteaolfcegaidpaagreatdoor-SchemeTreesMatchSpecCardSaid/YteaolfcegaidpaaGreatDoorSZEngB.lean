/-
  My text.
-/
import Derived.Test.YteaolfcegaidpaaGreatDoorSZEngA
namespace Go.Proofs.YteaolfcegaidpaaGreatDoor
set_option linter.unusedSimpArgs false
set_option linter.unusedVariables false
open Go.RowKit
inductive SV where
 |d (v:DV)
 |nils
 |lit (sz n:Nat) (cs:List SV)
 |agg (cs:List SV)
 |tup (cs:List SV)
 |ref (id off:Nat)
 |vec (id:Nat)
 |vref (id sz i off:Nat)
 |mp (id:Nat)
 |clo (f:FuncId) (ids:List Nat)
 |own (m:cO) (v:DV)
variable {A:Nat->Prop} {B:Nat} {M:Nat->Prop} {a:Act} {dst id:Nat} {t:Nat×IntKind×List Int} {v:Value} {w w':World} {x:SV} {α:Type} {κ:Nat->Value} {φ:Nat->List Nat}
def fN {α:Type} (sz:Nat):Nat->List α->List (List α)
 |0,_=>[]
 |n+1,l=>l.take sz::fN sz n (l.drop sz)
theorem ir {α:Type} (sz:Nat):∀ (n:Nat) (l:List α),(fN sz n l).length=n
 |0,_=>rfl
 |n+1,l=>by simp[fN,ir sz n]
theorem nP {α:Type} (sz:Nat):∀ (n:Nat) (l:List α),l.length=n * sz->(fN sz n l).flatten=l
 |0,l,h=>by simp at h;subst h;rfl
 |n+1,l,h=>by
  rw[T2] at h
  simp only[fN,TB]
  rw[nP sz n _ oT,Tf]
theorem vg {α:Type} (sz:Nat):∀ (n:Nat) (l:List α),l.length=n * sz->∀ r∈fN sz n l,r.length=sz
 |0,l,_,r,hr=>by simp[fN] at hr
 |n+1,l,h,r,hr=>by
  rw[T2] at h
  simp only[fN,S9] at hr
  rcases hr with rfl|hr
  ·simp;omega
  ·exact vg sz n _ oT r hr
mutual
def SV.toDV:SV->Option DV
 | .d v=>some v
 | .nils=>some (.slice [])
 | .lit sz n cs=>match SV.toDVs cs with|some xs=>some (.slice (fN sz n xs))|none=>none
 | .agg cs=>match SV.toDVs cs with|some xs=>some (.agg xs)|none=>none
 | .tup cs=>match SV.toDVs cs with|some xs=>some (.tup xs)|none=>none
 | .ref _ _=>none
 | .vec _=>none
 | .vref _ _ _ _=>none
 | .mp _=>none
 | .clo _ _=>none
 | .own _ _=>none
def SV.toDVs:List SV->Option (List DV)
 |[]=>some []
 |c::cs=>match SV.toDV c,SV.toDVs cs with|some x,some xs=>some (x::xs)|_,_=>none
end
inductive Ch where
 |dead
 |box (cells:List SV)
 |vec (e sz:Nat) (rows:List (List SV))
 |map (kk:KK) (kv:List (DV×SV))
 |bld (T e:Nat) (bs:List UInt8)
structure St where
 s:Nat->SV
 h:Nat->Ch
variable {σ:St}
def aD (f:Nat->α) (i:Nat) (v:α):Nat->α:=fun j=>if j=i then v else f j
theorem au (f:Nat->α) (i:Nat) (v:α):aD f i v i=v:=by simp[aD]
theorem bv (f:Nat->α) (i j:Nat) (v:α) (h:j≠i):aD f i v j=f j:=by simp[aD,h]
mutual
def ah (w:World) (M:Nat->Prop) (κ:Nat->Value):SV->Value->Prop
 | .d v,u=>ba w M v u
 | .nils,u=>u= .slice none 0 0
 | .lit sz n cs,u=>∃ b,∃ vs:List Value,u= .slice (some ⟨b,0,none⟩) n n/\¬ M b/\b<w.heap.size/\vs.length=n * sz/\(∀ x∈vs,x.oneCell'=true)/\(∀ j v,vs[j]?=some v->w.cell? ⟨b,j,none⟩=some v)/\an w M κ cs vs
 | .agg cs,u=>∃ vs:List Value,u= .agg vs.toArray/\(∀ x∈vs,x.oneCell'=true)/\an w M κ cs vs
 | .tup cs,u=>∃ vs:List Value,u= .tuple vs.toArray/\an w M κ cs vs
 | .ref id off,u=>∃ b,κ id= .pointer (some ⟨b,0,none⟩)/\u= .pointer (some ⟨b,off,none⟩)
 | .vec id,u=>u=κ id
 | .vref id sz i off,u=>∃ b len D,κ id= .slice (some ⟨b,0,none⟩) len D/\u= .pointer (some ⟨b,i * sz+off,none⟩)
 | .mp id,u=>u=κ id
 | .clo f ids,u=>u= .func (.func f) #[] (ids.map κ).toArray/\∀ i∈ids,∃ b,κ i= .pointer (some ⟨b,0,none⟩)
 | .own _ _,_=>False
def an (w:World) (M:Nat->Prop) (κ:Nat->Value):List SV->List Value->Prop
 |[],vs=>vs=[]
 |c::cs,vs=>∃ u us,vs=u::us/\ah w M κ c u/\an w M κ cs us
end
mutual
theorem ah.ext {w w':World} {M M':Nat->Prop} {κ:Nat->Value} (h:lA w M w' M'):∀ (x:SV) (v:Value),ah w M κ x v->ah w' M' κ x v
 | .d x,v,hr=>by unfold ah at *;exact hr.ext h
 | .nils,v,hr=>by unfold ah at *;exact hr
 | .lit sz n cs,v,hr=>by
  unfold ah at *
  obtain⟨b,vs,h1,h2,E,h4,h5,h6,h7⟩:=hr
  exact⟨b,vs,h1,(h.keep b E h2).2,Tt E h.size,h4,h5,fun j v hj=>by rw[h.cell E h2];exact h6 j v hj,an.ext h cs vs h7⟩
 | .agg cs,v,hr=>by
  unfold ah at *
  obtain⟨vs,hv,h1,hl⟩:=hr
  exact⟨vs,hv,h1,an.ext h cs vs hl⟩
 | .tup cs,v,hr=>by
  unfold ah at *
  obtain⟨vs,hv,hl⟩:=hr
  exact⟨vs,hv,an.ext h cs vs hl⟩
 | .ref _ _,v,hr=>by unfold ah at *;exact hr
 | .vec _,v,hr=>by unfold ah at *;exact hr
 | .vref _ _ _ _,v,hr=>by unfold ah at *;exact hr
 | .mp _,v,hr=>by unfold ah at *;exact hr
 | .clo _ _,v,hr=>by unfold ah at *;exact hr
 | .own _ _,v,hr=>by unfold ah at *;exact hr
theorem an.ext {w w':World} {M M':Nat->Prop} {κ:Nat->Value} (h:lA w M w' M'):∀ (cs:List SV) (vs:List Value),an w M κ cs vs->an w' M' κ cs vs
 |[],vs,hr=>by unfold an at *;exact hr
 |c::cs,vs,hr=>by
  unfold an at *
  obtain⟨u,us,hv,h1,h2⟩:=hr
  exact⟨u,us,hv,ah.ext h c u h1,an.ext h cs us h2⟩
end
theorem b4.of_cells {w:World} {M:Nat->Prop}:∀ {cs:List DV} {vs:List Value} {b o:Nat},aN w M cs vs->(∀ x∈vs,x.oneCell'=true)->(∀ j v,vs[j]?=some v->w.cell? ⟨b,o+j,none⟩=some v)->b4 w M cs b o
 |[],vs,b,o,_,_,_=>by unfold b4;trivial
 |c::cs,vs,b,o,h,h1,h2=>by
  unfold aN at h
  obtain⟨u,us,rfl,E,h4⟩:=h
  unfold b4
  exact⟨⟨u,by simpa using h2 0 u oS,h1 u oS,E⟩,b4.of_cells h4 (fun x hx=>h1 x (by simp[hx])) fun j v hj=>by
   have:=h2 (j+1) v (by simpa using hj)
   rwa[show o+(j+1)=o+1+j by omega] at this⟩
theorem aN.len {w:World} {M:Nat->Prop}:∀ {cs:List DV} {vs:List Value},aN w M cs vs->vs.length=cs.length
 |[],vs,h=>by unfold aN at h;simp[h]
 |c::cs,vs,h=>by unfold aN at h;obtain⟨u,us,rfl,_,h2⟩:=h;simp[aN.len h2]
theorem aN.cut {w:World} {M:Nat->Prop}:∀ {cs:List DV} {vs:List Value} (n:Nat),aN w M cs vs->aN w M (cs.take n) (vs.take n)/\aN w M (cs.drop n) (vs.drop n)
 |cs,vs,0,h=>by simpa[aN] using h
 |[],vs,n+1,h=>by unfold aN at h;subst h;simp[aN]
 |c::cs,vs,n+1,h=>by
  unfold aN at h
  obtain⟨u,us,rfl,h1,h2⟩:=h
  obtain⟨E,h4⟩:=aN.cut n h2
  simp only[Uz,U1]
  refine⟨?_,h4⟩
  unfold aN
  exact⟨u,_,rfl,h1,E⟩
theorem bi.of_cells {w:World} {M:Nat->Prop} {sz:Nat}:∀ {n:Nat} {xs:List DV} {vs:List Value} {b o:Nat},aN w M xs vs->(∀ x∈vs,x.oneCell'=true)->(∀ j v,vs[j]?=some v->w.cell? ⟨b,o+j,none⟩=some v)->xs.length=n * sz->bi w M (fN sz n xs) b o sz
 |0,xs,vs,b,o,_,_,_,_=>by unfold fN bi;trivial
 |n+1,xs,vs,b,o,h,h1,h2,hl=>by
  rw[T2] at hl
  obtain⟨E,h4⟩:=h.cut sz
  unfold fN bi
  refine⟨by simp;omega,b4.of_cells E (fun x hx=>h1 x (Tm hx)) fun j v hj=>h2 j v ?_,bi.of_cells h4 (fun x hx=>h1 x (TE hx)) (fun j v hj=> ?_) oT⟩
  ·rw[T5] at hj;split at hj
   ·exact hj
   ·cases hj
  ·rw[T0] at hj
   have:=h2 _ v hj
   rwa[show o+(sz+j)=o+sz+j by omega] at this
mutual
theorem ah.toDV {w:World} {M:Nat->Prop} {κ:Nat->Value}:∀ (x:SV) (v:Value) (d:DV),ah w M κ x v->x.toDV=some d->ba w M d v
 | .d x,v,d,hr,hd=>by
  simp only[SV.toDV,SN] at hd
  subst hd;unfold ah at hr;exact hr
 | .nils,v,d,hr,hd=>by
  simp only[SV.toDV,SN] at hd
  subst hd;unfold ah at hr;subst hr;unfold ba
  exact⟨none,0,rfl,S0 _,fun _=>rfl,.inl rfl⟩
 | .lit sz n cs,v,d,hr,hd=>by
  unfold SV.toDV at hd
  unfold ah at hr
  obtain⟨b,vs,h1,h2,E,h4,h5,h6,h7⟩:=hr
  cases hc:SV.toDVs cs with
  |none=>simp[hc] at hd
  |some xs=>
   simp only[hc,SN] at hd
   subst hd
   have hl:=an.toDVs cs vs xs h7 hc
   unfold ba
   refine⟨some ⟨b,0,none⟩,n,by rw[ir];exact h1,by rw[ir];exact S0 _,by simp,.inr ⟨b,0,sz,rfl,h2,E, ?_⟩⟩
   exact bi.of_cells hl h5 (fun j v hj=>by rw[TJ];exact h6 j v hj) (by rw[<-hl.len];exact h4)
 | .agg cs,v,d,hr,hd=>by
  unfold SV.toDV at hd
  unfold ah at hr
  obtain⟨vs,hv,h1,hl⟩:=hr
  cases hc:SV.toDVs cs with
  |none=>simp[hc] at hd
  |some xs=>
   simp only[hc,SN] at hd
   subst hd
   unfold ba
   exact⟨vs,hv,h1,an.toDVs cs vs xs hl hc⟩
 | .tup cs,v,d,hr,hd=>by
  unfold SV.toDV at hd
  unfold ah at hr
  obtain⟨vs,hv,hl⟩:=hr
  cases hc:SV.toDVs cs with
  |none=>simp[hc] at hd
  |some xs=>
   simp only[hc,SN] at hd
   subst hd
   unfold ba
   exact⟨vs,hv,an.toDVs cs vs xs hl hc⟩
 | .ref _ _,v,d,hr,hd=>by simp[SV.toDV] at hd
 | .vec _,v,d,hr,hd=>by simp[SV.toDV] at hd
 | .vref _ _ _ _,v,d,hr,hd=>by simp[SV.toDV] at hd
 | .mp _,v,d,hr,hd=>by simp[SV.toDV] at hd
 | .clo _ _,v,d,hr,hd=>by simp[SV.toDV] at hd
 | .own _ _,v,d,hr,hd=>by simp[SV.toDV] at hd
theorem an.toDVs {w:World} {M:Nat->Prop} {κ:Nat->Value}:∀ (cs:List SV) (vs:List Value) (O:List DV),an w M κ cs vs->SV.toDVs cs=some O->aN w M O vs
 |[],vs,O,hr,hd=>by
  simp only[SV.toDVs,SN] at hd
  subst hd;unfold an at hr;unfold aN;exact hr
 |c::cs,vs,O,hr,hd=>by
  unfold SV.toDVs at hd
  unfold an at hr
  obtain⟨u,us,hv,h1,h2⟩:=hr
  cases hc:SV.toDV c with
  |none=>simp[hc] at hd
  |some x=>
   cases r4:SV.toDVs cs with
   |none=>simp[hc,r4] at hd
   |some xs=>
    simp only[hc,r4,SN] at hd
    subst hd
    unfold aN
    exact⟨u,us,hv,ah.toDV c u x h1 hc,an.toDVs cs us xs h2 r4⟩
end
mutual
def aQ (w:World) (M:Nat->Prop) (κ:Nat->Value):SV->Value->List Nat->Prop
 | .own m d,u,F=>eR w M m d u F
 | .agg cs,u,F=>∃ vs:List Value,u= .agg vs.toArray/\(∀ x∈vs,x.oneCell'=true)/\ar w M κ cs vs F
 | .tup cs,u,F=>∃ vs:List Value,u= .tuple vs.toArray/\ar w M κ cs vs F
 | .d x,u,F=>F=[]/\ah w M κ (.d x) u
 | .nils,u,F=>F=[]/\ah w M κ .nils u
 | .lit sz n cs,u,F=>F=[]/\ah w M κ (.lit sz n cs) u
 | .ref i o,u,F=>F=[]/\ah w M κ (.ref i o) u
 | .vec i,u,F=>F=[]/\ah w M κ (.vec i) u
 | .vref i s k o,u,F=>F=[]/\ah w M κ (.vref i s k o) u
 | .mp i,u,F=>F=[]/\ah w M κ (.mp i) u
 | .clo f i,u,F=>F=[]/\ah w M κ (.clo f i) u
def ar (w:World) (M:Nat->Prop) (κ:Nat->Value):List SV->List Value->List Nat->Prop
 |[],vs,F=>vs=[]/\F=[]
 |c::cs,vs,F=>∃ u us z I,vs=u::us/\F=z++I/\aQ w M κ c u z/\ar w M κ cs us I
end
mutual
theorem aQ.ext {w w':World} {M M':Nat->Prop} {κ:Nat->Value} (h:lA w M w' M'):∀ (x:SV) (v:Value) (F:List Nat),(∀ b∈F,w'.heap[b]?=w.heap[b]?)->aQ w M κ x v F->aQ w' M' κ x v F
 | .own m d,v,F,hk,hr=>by unfold aQ at *;exact eR.ext h m d v F hk hr
 | .agg cs,v,F,hk,hr=>by
  unfold aQ at *
  obtain⟨vs,hv,h1,hl⟩:=hr
  exact⟨vs,hv,h1,ar.ext h cs vs F hk hl⟩
 | .tup cs,v,F,hk,hr=>by
  unfold aQ at *
  obtain⟨vs,hv,hl⟩:=hr
  exact⟨vs,hv,ar.ext h cs vs F hk hl⟩
 | .d _,v,F,hk,hr=>by unfold aQ at *;exact⟨hr.1,hr.2.ext h⟩
 | .nils,v,F,hk,hr=>by unfold aQ at *;exact⟨hr.1,hr.2.ext h⟩
 | .lit _ _ _,v,F,hk,hr=>by unfold aQ at *;exact⟨hr.1,hr.2.ext h⟩
 | .ref _ _,v,F,hk,hr=>by unfold aQ at *;exact⟨hr.1,hr.2.ext h⟩
 | .vec _,v,F,hk,hr=>by unfold aQ at *;exact⟨hr.1,hr.2.ext h⟩
 | .vref _ _ _ _,v,F,hk,hr=>by unfold aQ at *;exact⟨hr.1,hr.2.ext h⟩
 | .mp _,v,F,hk,hr=>by unfold aQ at *;exact⟨hr.1,hr.2.ext h⟩
 | .clo _ _,v,F,hk,hr=>by unfold aQ at *;exact⟨hr.1,hr.2.ext h⟩
theorem ar.ext {w w':World} {M M':Nat->Prop} {κ:Nat->Value} (h:lA w M w' M'):∀ (cs:List SV) (vs:List Value) (F:List Nat),(∀ b∈F,w'.heap[b]?=w.heap[b]?)->ar w M κ cs vs F->ar w' M' κ cs vs F
 |[],vs,F,_,hr=>by unfold ar at *;exact hr
 |c::cs,vs,F,hk,hr=>by
  unfold ar at *
  obtain⟨u,us,z,I,hv,rfl,h1,h2⟩:=hr
  exact⟨u,us,z,I,hv,rfl,aQ.ext h c u z (fun b hb=>hk b (by simp[hb])) h1,ar.ext h cs us I (fun b hb=>hk b (by simp[hb])) h2⟩
end
mutual
theorem aQ.of_S {w:World} {M:Nat->Prop} {κ:Nat->Value}:∀ (x:SV) (v:Value),ah w M κ x v->aQ w M κ x v []
 | .own m d,v,hr=>by unfold ah at hr;exact hr.elim
 | .agg cs,v,hr=>by
  unfold ah at hr;unfold aQ
  obtain⟨vs,hv,h1,hl⟩:=hr
  exact⟨vs,hv,h1,ar.of_S cs vs hl⟩
 | .tup cs,v,hr=>by
  unfold ah at hr;unfold aQ
  obtain⟨vs,hv,hl⟩:=hr
  exact⟨vs,hv,ar.of_S cs vs hl⟩
 | .d _,v,hr=>by unfold aQ;exact⟨rfl,hr⟩
 | .nils,v,hr=>by unfold aQ;exact⟨rfl,hr⟩
 | .lit _ _ _,v,hr=>by unfold aQ;exact⟨rfl,hr⟩
 | .ref _ _,v,hr=>by unfold aQ;exact⟨rfl,hr⟩
 | .vec _,v,hr=>by unfold aQ;exact⟨rfl,hr⟩
 | .vref _ _ _ _,v,hr=>by unfold aQ;exact⟨rfl,hr⟩
 | .mp _,v,hr=>by unfold aQ;exact⟨rfl,hr⟩
 | .clo _ _,v,hr=>by unfold aQ;exact⟨rfl,hr⟩
theorem ar.of_S {w:World} {M:Nat->Prop} {κ:Nat->Value}:∀ (cs:List SV) (vs:List Value),an w M κ cs vs->ar w M κ cs vs []
 |[],vs,hr=>by unfold an at hr;unfold ar;exact⟨hr,rfl⟩
 |c::cs,vs,hr=>by
  unfold an at hr;unfold ar
  obtain⟨u,us,hv,h1,h2⟩:=hr
  exact⟨u,us,[],[],hv,rfl,aQ.of_S c u h1,ar.of_S cs us h2⟩
end
mutual
def SV.noOwn:SV->Bool
 | .own _ _=>false
 | .agg cs=>SV.noOwns cs
 | .tup cs=>SV.noOwns cs
 | .d _=>true
 | .nils=>true
 | .lit _ _ _=>true
 | .ref _ _=>true
 | .vec _=>true
 | .vref _ _ _ _=>true
 | .mp _=>true
 | .clo _ _=>true
def SV.noOwns:List SV->Bool
 |[]=>true
 |c::cs=>SV.noOwn c&&SV.noOwns cs
end
mutual
theorem aQ.to_S {w:World} {M:Nat->Prop} {κ:Nat->Value}:∀ (x:SV) (v:Value) (F:List Nat),x.noOwn=true->aQ w M κ x v F->ah w M κ x v/\F=[]
 | .own m d,v,F,hn,hr=>by simp[SV.noOwn] at hn
 | .agg cs,v,F,hn,hr=>by
  unfold aQ at hr
  unfold ah
  obtain⟨vs,hv,h1,hl⟩:=hr
  obtain⟨h2,E⟩:=ar.to_S cs vs F (by simpa[SV.noOwn] using hn) hl
  exact⟨⟨vs,hv,h1,h2⟩,E⟩
 | .tup cs,v,F,hn,hr=>by
  unfold aQ at hr
  unfold ah
  obtain⟨vs,hv,hl⟩:=hr
  obtain⟨h2,E⟩:=ar.to_S cs vs F (by simpa[SV.noOwn] using hn) hl
  exact⟨⟨vs,hv,h2⟩,E⟩
 | .d _,v,F,hn,hr=>by unfold aQ at hr;exact⟨hr.2,hr.1⟩
 | .nils,v,F,hn,hr=>by unfold aQ at hr;exact⟨hr.2,hr.1⟩
 | .lit _ _ _,v,F,hn,hr=>by unfold aQ at hr;exact⟨hr.2,hr.1⟩
 | .ref _ _,v,F,hn,hr=>by unfold aQ at hr;exact⟨hr.2,hr.1⟩
 | .vec _,v,F,hn,hr=>by unfold aQ at hr;exact⟨hr.2,hr.1⟩
 | .vref _ _ _ _,v,F,hn,hr=>by unfold aQ at hr;exact⟨hr.2,hr.1⟩
 | .mp _,v,F,hn,hr=>by unfold aQ at hr;exact⟨hr.2,hr.1⟩
 | .clo _ _,v,F,hn,hr=>by unfold aQ at hr;exact⟨hr.2,hr.1⟩
theorem ar.to_S {w:World} {M:Nat->Prop} {κ:Nat->Value}:∀ (cs:List SV) (vs:List Value) (F:List Nat),SV.noOwns cs=true->ar w M κ cs vs F->an w M κ cs vs/\F=[]
 |[],vs,F,hn,hr=>by unfold ar at hr;unfold an;exact hr
 |c::cs,vs,F,hn,hr=>by
  unfold ar at hr;unfold an
  obtain⟨u,us,z,I,hv,rfl,h1,h2⟩:=hr
  simp only[SV.noOwns,SR] at hn
  obtain⟨k1,rfl⟩:=aQ.to_S c u z hn.1 h1
  obtain⟨k2,rfl⟩:=ar.to_S cs us I hn.2 h2
  exact⟨⟨u,us,hv,k1,k2⟩,rfl⟩
end
def PF (κ:Nat->Value):Prop:=∀ id,(κ id).oneCell'=true
def bH (w:World) (M:Nat->Prop) (κ:Nat->Value) (kk:KK):List (DV×SV)->List MapEntry->List Nat->Prop
 |[],es,F=>es=[]/\F=[]
 |(k,c)::kv,es,F=>∃ e T z I,es=e::T/\F=z++I/\kk.fits k=true/\dq k=some e.key/\aQ w M κ c e.val z/\bH w M κ kk kv T I
def kK (w:World) (M:Nat->Prop) (κ:Nat->Value) (id:Nat):Ch->List Nat->Prop
 | .dead,F=>F=[]
 | .box cs,F=>∃ b T vs G,κ id= .pointer (some ⟨b,0,none⟩)/\w.heap[b]?=some (.cells (List.toArray vs) T (0,0))/\(∀ x∈vs,x.oneCell'=true)/\ar w M κ cs vs G/\F=b::G
 | .vec e sz rows,F=>∃ xs G,w.ownsRow 0 e sz (κ id) rows.length xs/\(∀ x∈xs,x.oneCell'=true)/\(∀ r∈rows,r.length=sz)/\ar w M κ rows.flatten xs G/\F=hP (κ id)++G
 | .map kk kv,F=>∃ r es C G,κ id= .map (some r)/\w.heap[r]?=some (.map (List.toArray es) C)/\Gd es C/\bH w M κ kk kv es G/\F=r::G
 | .bld T e bs,F=>BJ w T e bs (κ id) F
def L3:List (Nat×IntKind×List Int):=[(5,.u64,(List.range 20).map fun i=>((10^i:Nat):Int)),(0,.i64,[])]
def wN (w:World) (t:Nat×IntKind×List Int):Prop:=
 (t.2.2=[]/\∃ m,w.cell? ⟨t.1,0,none⟩=some (.int t.2.1 m))\/(t.2.2≠[]/\∃ u f,w.heap[t.1]?=some (.cells (t.2.2.map fun z=>Value.int t.2.1 z).toArray u f))
theorem wN.int (h:wN w t) (hn:t.2.2=[]):∃ m,w.cell? ⟨t.1,0,none⟩=some (.int t.2.1 m):=by
 rcases h with⟨_,h⟩|⟨h,_⟩
 ·exact h
 ·exact absurd hn h
theorem wN.keep (h:wN w t) (hk:w'.heap[t.1]?=w.heap[t.1]?):wN w' t:=by
 rcases h with⟨h1,m,h2⟩|⟨h1,u,f,h2⟩
 ·refine .inl ⟨h1,m, ?_⟩
  unfold World.cell? at h2⊢
  simp only at h2⊢
  rw[hk];exact h2
 ·exact .inr ⟨h1,u,f,by rw[hk];exact h2⟩
def y0 (w:World):Prop:=∀ t∈L3,wN w t
def Hk (A:Nat->Prop):Prop:=∀ t∈L3,¬ A t.1
theorem wN.lt (h:wN w t):t.1<w.heap.size:=by
 rcases h with⟨_,m,h⟩|⟨_,u,f,h⟩
 ·unfold World.cell? at h
  simp only at h
  by_cases h9:t.1<w.heap.size
  ·exact h9
  ·rw[Array.getElem?_eq_none oM] at h;cases h
 ·exact(Ty.1 h).1
theorem y0.below (h:y0 w) (hb:Below w.heap.size w w'):y0 w':=fun t Y=>(h t Y).keep (hb.block t.1 (h t Y).lt)
structure Cx where
 B:Nat
 w0:World
 M0:Nat->Prop
 A:Nat->Prop
 N:Nat
 gs:List Value
 good:y0 w0
 free:Hk A
 le:w0.heap.size<=B
variable {c:Cx}
structure AK (B:Nat) (A:Nat->Prop) (w w':World):Prop where
 os:w'.os=w.os
 tape:w'.tape=w.tape
 output:w'.output=w.output
 size:w.heap.size<=w'.heap.size
 block:∀ b,b<B->¬ A b->w'.heap[b]?=w.heap[b]?
theorem AK.refl (B:Nat) (A:Nat->Prop) (w:World):AK B A w w:=⟨rfl,rfl,rfl,S0 _,fun _ _ _=>rfl⟩
theorem AK.trans {a:World} (h:AK B A w w') (k:AK B A w' a):AK B A w a:=
 ⟨k.os.trans h.os,k.tape.trans h.tape,k.output.trans h.output,TT h.size k.size,fun b hb ha=>(k.block b hb ha).trans (h.block b hb ha)⟩
theorem AK.mono {a:Nat} {c:Nat->Prop} (h:AK B A w w') (hB:a<=B) (E:∀ b,b<a->A b->c b):AK a c w w':=
 ⟨h.os,h.tape,h.output,h.size,fun b hb ha=>h.block b oM fun h'=>ha (E b hb h')⟩
theorem AK.of_below (h:Below B w w'):AK B A w w':=⟨h.os,h.tape,h.output,h.size,fun b hb _=>h.block b hb⟩
theorem AK.below (h:AK B A w w') (E:∀ b,¬ A b):Below B w w':=⟨h.os,h.tape,h.output,h.size,fun b hb=>h.block b hb (E b)⟩
def own (c:Cx) (φ:Nat->List Nat) (b:Nat):Prop:=c.M0 b\/∃ id,b∈φ id
structure cH (c:Cx) (σ:St) (κ:Nat->Value) (φ:Nat->List Nat) (a:Act) (w:World):Prop where
 chg:AK c.B c.A c.w0 w
 size:c.B<=w.heap.size
 m0:∀ b,c.M0 b->b<c.B/\¬ c.A b
 ntmps:a.tmps.size=c.N
 defers:a.defers=[]
 kok:PF κ
 slots:∀ i,i<c.N->ah w (own c φ) κ (σ.s i) (a.tmps.getD i undef)
 ghost:∀ i v,c.gs[i]?=some v->ah w (own c φ) κ (σ.s (c.N+i)) v
 chunks:∀ id,kK w (own c φ) κ id (σ.h id) (φ id)
 mine:∀ id b,b∈φ id->b<w.heap.size/\(c.B<=b\/c.A b)
 nod:∀ id,(φ id).Nodup
 sep:∀ i j b,i≠j->b∈φ i->b∈φ j->False
theorem cH.good (h:cH c σ κ φ a w):y0 w:=fun t Y=>
 (c.good t Y).keep (h.chg.block t.1 (Tt (c.good t Y).lt c.le) (c.free t Y))
theorem cH.free (h:cH c σ κ φ a w):Hk (· ∈φ id):=fun t Y hb=>by
 rcases(h.mine id t.1 hb).2 with h1|h1
 ·have:=Tt (c.good t Y).lt c.le;omega
 ·exact c.free t Y h1
theorem cH.own_lt (h:cH c σ κ φ a w) {b:Nat} (hb:own c φ b):b<w.heap.size:=by
 rcases hb with hb|⟨id,hb⟩
 ·exact Tt (h.m0 b hb).1 h.size
 ·exact(h.mine id b hb).1
theorem bH.ext {w w':World} {M M':Nat->Prop} {κ:Nat->Value} {kk:KK} (h:lA w M w' M'):∀ (kv:List (DV×SV)) (es:List MapEntry) (F:List Nat),(∀ b∈F,w'.heap[b]?=w.heap[b]?)->bH w M κ kk kv es F->bH w' M' κ kk kv es F
 |[],es,F,_,hr=>by unfold bH at *;exact hr
 |(k,c)::kv,es,F,hk,hr=>by
  unfold bH at *
  obtain⟨e,T,z,I,h1,rfl,h2,E,h4,h5⟩:=hr
  exact⟨e,T,z,I,h1,rfl,h2,E,aQ.ext h c _ z (fun b hb=>hk b (by simp[hb])) h4,bH.ext h kv T I (fun b hb=>hk b (by simp[hb])) h5⟩
theorem kK.ext {M':Nat->Prop} {c:Ch} {F:List Nat} (h:lA w M w' M') (hk:∀ b∈F,w'.heap[b]?=w.heap[b]?) (hc:kK w M κ id c F):kK w' M' κ id c F:=by
 cases c with
 |dead=>exact hc
 |box cs=>
  obtain⟨b,T,vs,G,h1,h2,E,h4,rfl⟩:=hc
  exact⟨b,T,vs,G,h1,by rw[hk b oS];exact h2,E,ar.ext h cs vs G (fun b hb=>hk b (by simp[hb])) h4,rfl⟩
 |vec e sz rows=>
  obtain⟨xs,G,h1,h2,E,h4,rfl⟩:=hc
  exact⟨xs,G,wM (fun b hb=>hk b (by simp[hb])) h1,h2,E,ar.ext h _ xs G (fun b hb=>hk b (by simp[hb])) h4,rfl⟩
 |map kk kv=>
  obtain⟨r,es,C,G,h1,h2,hB,E,rfl⟩:=hc
  exact⟨r,es,C,G,h1,by rw[hk r oS];exact h2,hB,bH.ext h kv es G (fun b hb=>hk b (by simp[hb])) E,rfl⟩
 |bld T e bs=>exact BJ.ext hk hc
theorem lA.of_below (h:Below w.heap.size w w'):lA w M w' M:=⟨h.size,fun b hb Z=>⟨h.block b hb,Z⟩⟩
theorem rX (t:Array Value) (d i:Nat) (v:Value):(t.setIfInBounds d v).getD i undef=if d=i/\d<t.size then v else t.getD i undef:=by
 by_cases h:d=i
 ·subst h
  by_cases hs:d<t.size<;>simp[hs]
 ·simp[h]
theorem cH.grown (h:cH c σ κ φ a w) (hb:Below w.heap.size w w'):cH c σ κ φ a w':=by
 have N:lA w (own c φ) w' (own c φ):=lA.of_below hb
 exact⟨h.chg.trans (AK.of_below (hb.mono h.size)),TT h.size hb.size,h.m0,h.ntmps,h.defers,h.kok,fun i hi=>ah.ext N _ _ (h.slots i hi),fun i v hv=>ah.ext N _ _ (h.ghost i v hv),
  fun id=>(h.chunks id).ext N fun b u=>hb.block b (h.mine id b u).1,fun id b h6=>⟨Tt (h.mine id b h6).1 hb.size,(h.mine id b h6).2⟩,h.nod,h.sep⟩
theorem cH.putS (h:cH c σ κ φ a w) (r3:dst<c.N) (hx:ah w (own c φ) κ x v):cH c {σ with s:=aD σ.s dst x} κ φ (a.put (some dst) v) w:=by
 refine⟨h.chg,h.size,h.m0,by simp[Act.put,h.ntmps],h.defers,h.kok,fun i hi=> ?_,fun i v hv=>by dsimp only;rw[bv _ _ _ _ oM];exact h.ghost i v hv,h.chunks,h.mine,h.nod,h.sep⟩
 simp only[Act.put,rX]
 by_cases hd:dst=i
 ·subst hd;simp[h.ntmps,hi,au,hx]
 ·simp only[hd,false_and,Tv]
  rw[bv _ _ _ _ (fun e=>hd e.symm)]
  exact h.slots i hi
theorem cH.put (h:cH c σ κ φ a w) (r3:dst<c.N) (hb:Below w.heap.size w w') (hx:ah w' (own c φ) κ x v):cH c {σ with s:=aD σ.s dst x} κ φ (a.put (some dst) v) w':=(h.grown hb).putS r3 hx
