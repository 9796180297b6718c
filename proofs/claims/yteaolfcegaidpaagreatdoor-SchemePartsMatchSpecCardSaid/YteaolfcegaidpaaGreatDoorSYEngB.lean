/-
  My text.
-/
import Derived.Test.YteaolfcegaidpaaGreatDoorSYEngA
namespace Go.Proofs.YteaolfcegaidpaaGreatDoor
set_option linter.unusedSimpArgs false
set_option linter.unusedVariables false
open Go.RowKit
inductive SV where
 |d (v:DV)
 |nils
 |lit (sz n:Nat) (cs:List SV)
 |agg (cs:List SV)
 |tup (cs:List SV)
 |ref (id off:Nat)
 |vec (id:Nat)
 |vref (id sz i off:Nat)
 |mp (id:Nat)
 |clo (f:FuncId) (ids:List Nat)
 |own (m:cB) (v:DV)
def fC {α:Type} (sz:Nat):Nat->List α->List (List α)
 |0,_=>[]
 |n+1,l=>l.take sz::fC sz n (l.drop sz)
theorem il {α:Type} (sz:Nat):∀ (n:Nat) (l:List α),(fC sz n l).length=n
 |0,_=>rfl
 |n+1,l=>by simp[fC,il sz n]
theorem nl {α:Type} (sz:Nat):∀ (n:Nat) (l:List α),l.length=n * sz->(fC sz n l).flatten=l
 |0,l,h=>by simp at h;subst h;rfl
 |n+1,l,h=>by
  rw[PD] at h
  simp only[fC,O_]
  rw[nl sz n _ oT,OU]
theorem tc {α:Type} (sz:Nat):∀ (n:Nat) (l:List α),l.length=n * sz->∀ r∈fC sz n l,r.length=sz
 |0,l,_,r,hr=>by simp[fC] at hr
 |n+1,l,h,r,hr=>by
  rw[PD] at h
  simp only[fC,ON] at hr
  rcases hr with rfl|hr
  ·simp;omega
  ·exact tc sz n _ oT r hr
mutual
def SV.toDV:SV->Option DV
 | .d v=>some v
 | .nils=>some (.slice [])
 | .lit sz n cs=>match SV.toDVs cs with|some xs=>some (.slice (fC sz n xs))|none=>none
 | .agg cs=>match SV.toDVs cs with|some xs=>some (.agg xs)|none=>none
 | .tup cs=>match SV.toDVs cs with|some xs=>some (.tup xs)|none=>none
 | .ref _ _=>none
 | .vec _=>none
 | .vref _ _ _ _=>none
 | .mp _=>none
 | .clo _ _=>none
 | .own _ _=>none
def SV.toDVs:List SV->Option (List DV)
 |[]=>some []
 |c::cs=>match SV.toDV c,SV.toDVs cs with|some x,some xs=>some (x::xs)|_,_=>none
end
inductive Ch where
 |dead
 |box (cells:List SV)
 |vec (e sz:Nat) (rows:List (List SV))
 |map (kk:KK) (kv:List (DV×SV))
 |bld (T e:Nat) (bs:List UInt8)
structure St where
 s:Nat->SV
 h:Nat->Ch
def aH {α:Type} (f:Nat->α) (i:Nat) (v:α):Nat->α:=fun j=>if j=i then v else f j
theorem an {α:Type} (f:Nat->α) (i:Nat) (v:α):aH f i v i=v:=by simp[aH]
theorem bf {α:Type} (f:Nat->α) (i j:Nat) (v:α) (h:j≠i):aH f i v j=f j:=by simp[aH,h]
mutual
def ae (w:World) (M:Nat->Prop) (κ:Nat->Value):SV->Value->Prop
 | .d v,u=>aQ w M v u
 | .nils,u=>u= .slice none 0 0
 | .lit sz n cs,u=>∃ b,∃ vs:List Value,u= .slice (some ⟨b,0,none⟩) n n/\¬ M b/\b<w.heap.size/\vs.length=n * sz/\(∀ x∈vs,x.oneCell'=true)/\(∀ j v,vs[j]?=some v->w.cell? ⟨b,j,none⟩=some v)/\ai w M κ cs vs
 | .agg cs,u=>∃ vs:List Value,u= .agg vs.toArray/\(∀ x∈vs,x.oneCell'=true)/\ai w M κ cs vs
 | .tup cs,u=>∃ vs:List Value,u= .tuple vs.toArray/\ai w M κ cs vs
 | .ref id off,u=>∃ b,κ id= .pointer (some ⟨b,0,none⟩)/\u= .pointer (some ⟨b,off,none⟩)
 | .vec id,u=>u=κ id
 | .vref id sz i off,u=>∃ b len cap,κ id= .slice (some ⟨b,0,none⟩) len cap/\u= .pointer (some ⟨b,i * sz+off,none⟩)
 | .mp id,u=>u=κ id
 | .clo f ids,u=>u= .func (.func f) #[] (ids.map κ).toArray/\∀ i∈ids,∃ b,κ i= .pointer (some ⟨b,0,none⟩)
 | .own _ _,_=>False
def ai (w:World) (M:Nat->Prop) (κ:Nat->Value):List SV->List Value->Prop
 |[],vs=>vs=[]
 |c::cs,vs=>∃ u us,vs=u::us/\ae w M κ c u/\ai w M κ cs us
end
mutual
theorem ae.ext {w w':World} {M M':Nat->Prop} {κ:Nat->Value} (h:lL w M w' M'):∀ (x:SV) (v:Value),ae w M κ x v->ae w' M' κ x v
 | .d x,v,hr=>by unfold ae at *;exact hr.ext h
 | .nils,v,hr=>by unfold ae at *;exact hr
 | .lit sz n cs,v,hr=>by
  unfold ae at *
  obtain⟨b,vs,h1,h2,h3,h4,h5,h6,h7⟩:=hr
  exact⟨b,vs,h1,(h.keep b h3 h2).2,O4 h3 h.size,h4,h5,fun j v hj=>by rw[h.cell h3 h2];exact h6 j v hj,ai.ext h cs vs h7⟩
 | .agg cs,v,hr=>by
  unfold ae at *
  obtain⟨vs,hv,h1,hl⟩:=hr
  exact⟨vs,hv,h1,ai.ext h cs vs hl⟩
 | .tup cs,v,hr=>by
  unfold ae at *
  obtain⟨vs,hv,hl⟩:=hr
  exact⟨vs,hv,ai.ext h cs vs hl⟩
 | .ref _ _,v,hr=>by unfold ae at *;exact hr
 | .vec _,v,hr=>by unfold ae at *;exact hr
 | .vref _ _ _ _,v,hr=>by unfold ae at *;exact hr
 | .mp _,v,hr=>by unfold ae at *;exact hr
 | .clo _ _,v,hr=>by unfold ae at *;exact hr
 | .own _ _,v,hr=>by unfold ae at *;exact hr
theorem ai.ext {w w':World} {M M':Nat->Prop} {κ:Nat->Value} (h:lL w M w' M'):∀ (cs:List SV) (vs:List Value),ai w M κ cs vs->ai w' M' κ cs vs
 |[],vs,hr=>by unfold ai at *;exact hr
 |c::cs,vs,hr=>by
  unfold ai at *
  obtain⟨u,us,hv,h1,h2⟩:=hr
  exact⟨u,us,hv,ae.ext h c u h1,ai.ext h cs us h2⟩
end
theorem bO.of_cells {w:World} {M:Nat->Prop}:∀ {cs:List DV} {vs:List Value} {b o:Nat},aI w M cs vs->(∀ x∈vs,x.oneCell'=true)->(∀ j v,vs[j]?=some v->w.cell? ⟨b,o+j,none⟩=some v)->bO w M cs b o
 |[],vs,b,o,_,_,_=>by unfold bO;trivial
 |c::cs,vs,b,o,h,h1,h2=>by
  unfold aI at h
  obtain⟨u,us,rfl,h3,h4⟩:=h
  unfold bO
  exact⟨⟨u,by simpa using h2 0 u oS,h1 u oS,h3⟩,bO.of_cells h4 (fun x hx=>h1 x (by simp[hx])) fun j v hj=>by
   have:=h2 (j+1) v (by simpa using hj)
   rwa[show o+(j+1)=o+1+j by omega] at this⟩
theorem aI.len {w:World} {M:Nat->Prop}:∀ {cs:List DV} {vs:List Value},aI w M cs vs->vs.length=cs.length
 |[],vs,h=>by unfold aI at h;simp[h]
 |c::cs,vs,h=>by unfold aI at h;obtain⟨u,us,rfl,_,h2⟩:=h;simp[aI.len h2]
theorem aI.cut {w:World} {M:Nat->Prop}:∀ {cs:List DV} {vs:List Value} (n:Nat),aI w M cs vs->aI w M (cs.take n) (vs.take n)/\aI w M (cs.drop n) (vs.drop n)
 |cs,vs,0,h=>by simpa[aI] using h
 |[],vs,n+1,h=>by unfold aI at h;subst h;simp[aI]
 |c::cs,vs,n+1,h=>by
  unfold aI at h
  obtain⟨u,us,rfl,h1,h2⟩:=h
  obtain⟨h3,h4⟩:=aI.cut n h2
  simp only[Qk,List.drop_succ_cons]
  refine⟨?_,h4⟩
  unfold aI
  exact⟨u,_,rfl,h1,h3⟩
theorem aS.of_cells {w:World} {M:Nat->Prop} {sz:Nat}:∀ {n:Nat} {xs:List DV} {vs:List Value} {b o:Nat},aI w M xs vs->(∀ x∈vs,x.oneCell'=true)->(∀ j v,vs[j]?=some v->w.cell? ⟨b,o+j,none⟩=some v)->xs.length=n * sz->aS w M (fC sz n xs) b o sz
 |0,xs,vs,b,o,_,_,_,_=>by unfold fC aS;trivial
 |n+1,xs,vs,b,o,h,h1,h2,hl=>by
  rw[PD] at hl
  obtain⟨h3,h4⟩:=h.cut sz
  unfold fC aS
  refine⟨by simp;omega,bO.of_cells h3 (fun x hx=>h1 x (O0 hx)) fun j v hj=>h2 j v ?_,aS.of_cells h4 (fun x hx=>h1 x (Pg hx)) (fun j v hj=> ?_) oT⟩
  ·rw[PJ] at hj;split at hj
   ·exact hj
   ·cases hj
  ·rw[PF] at hj
   have:=h2 _ v hj
   rwa[show o+(sz+j)=o+sz+j by omega] at this
mutual
theorem ae.toDV {w:World} {M:Nat->Prop} {κ:Nat->Value}:∀ (x:SV) (v:Value) (d:DV),ae w M κ x v->x.toDV=some d->aQ w M d v
 | .d x,v,d,hr,hd=>by
  simp only[SV.toDV,Oy] at hd
  subst hd;unfold ae at hr;exact hr
 | .nils,v,d,hr,hd=>by
  simp only[SV.toDV,Oy] at hd
  subst hd;unfold ae at hr;subst hr;unfold aQ
  exact⟨none,0,rfl,OH _,fun _=>rfl,.inl rfl⟩
 | .lit sz n cs,v,d,hr,hd=>by
  unfold SV.toDV at hd
  unfold ae at hr
  obtain⟨b,vs,h1,h2,h3,h4,h5,h6,h7⟩:=hr
  cases hc:SV.toDVs cs with
  |none=>simp[hc] at hd
  |some xs=>
   simp only[hc,Oy] at hd
   subst hd
   have hl:=ai.toDVs cs vs xs h7 hc
   unfold aQ
   refine⟨some ⟨b,0,none⟩,n,by rw[il];exact h1,by rw[il];exact OH _,by simp,.inr ⟨b,0,sz,rfl,h2,h3, ?_⟩⟩
   exact aS.of_cells hl h5 (fun j v hj=>by rw[Ps];exact h6 j v hj) (by rw[<-hl.len];exact h4)
 | .agg cs,v,d,hr,hd=>by
  unfold SV.toDV at hd
  unfold ae at hr
  obtain⟨vs,hv,h1,hl⟩:=hr
  cases hc:SV.toDVs cs with
  |none=>simp[hc] at hd
  |some xs=>
   simp only[hc,Oy] at hd
   subst hd
   unfold aQ
   exact⟨vs,hv,h1,ai.toDVs cs vs xs hl hc⟩
 | .tup cs,v,d,hr,hd=>by
  unfold SV.toDV at hd
  unfold ae at hr
  obtain⟨vs,hv,hl⟩:=hr
  cases hc:SV.toDVs cs with
  |none=>simp[hc] at hd
  |some xs=>
   simp only[hc,Oy] at hd
   subst hd
   unfold aQ
   exact⟨vs,hv,ai.toDVs cs vs xs hl hc⟩
 | .ref _ _,v,d,hr,hd=>by simp[SV.toDV] at hd
 | .vec _,v,d,hr,hd=>by simp[SV.toDV] at hd
 | .vref _ _ _ _,v,d,hr,hd=>by simp[SV.toDV] at hd
 | .mp _,v,d,hr,hd=>by simp[SV.toDV] at hd
 | .clo _ _,v,d,hr,hd=>by simp[SV.toDV] at hd
 | .own _ _,v,d,hr,hd=>by simp[SV.toDV] at hd
theorem ai.toDVs {w:World} {M:Nat->Prop} {κ:Nat->Value}:∀ (cs:List SV) (vs:List Value) (ds:List DV),ai w M κ cs vs->SV.toDVs cs=some ds->aI w M ds vs
 |[],vs,ds,hr,hd=>by
  simp only[SV.toDVs,Oy] at hd
  subst hd;unfold ai at hr;unfold aI;exact hr
 |c::cs,vs,ds,hr,hd=>by
  unfold SV.toDVs at hd
  unfold ai at hr
  obtain⟨u,us,hv,h1,h2⟩:=hr
  cases hc:SV.toDV c with
  |none=>simp[hc] at hd
  |some x=>
   cases hcs:SV.toDVs cs with
   |none=>simp[hc,hcs] at hd
   |some xs=>
    simp only[hc,hcs,Oy] at hd
    subst hd
    unfold aI
    exact⟨u,us,hv,ae.toDV c u x h1 hc,ai.toDVs cs us xs h2 hcs⟩
end
mutual
def aK (w:World) (M:Nat->Prop) (κ:Nat->Value):SV->Value->List Nat->Prop
 | .own m d,u,F=>gl w M m d u F
 | .agg cs,u,F=>∃ vs:List Value,u= .agg vs.toArray/\(∀ x∈vs,x.oneCell'=true)/\am w M κ cs vs F
 | .tup cs,u,F=>∃ vs:List Value,u= .tuple vs.toArray/\am w M κ cs vs F
 | .d x,u,F=>F=[]/\ae w M κ (.d x) u
 | .nils,u,F=>F=[]/\ae w M κ .nils u
 | .lit sz n cs,u,F=>F=[]/\ae w M κ (.lit sz n cs) u
 | .ref i o,u,F=>F=[]/\ae w M κ (.ref i o) u
 | .vec i,u,F=>F=[]/\ae w M κ (.vec i) u
 | .vref i s k o,u,F=>F=[]/\ae w M κ (.vref i s k o) u
 | .mp i,u,F=>F=[]/\ae w M κ (.mp i) u
 | .clo f i,u,F=>F=[]/\ae w M κ (.clo f i) u
def am (w:World) (M:Nat->Prop) (κ:Nat->Value):List SV->List Value->List Nat->Prop
 |[],vs,F=>vs=[]/\F=[]
 |c::cs,vs,F=>∃ u us F1 F2,vs=u::us/\F=F1++F2/\aK w M κ c u F1/\am w M κ cs us F2
end
mutual
theorem aK.ext {w w':World} {M M':Nat->Prop} {κ:Nat->Value} (h:lL w M w' M'):∀ (x:SV) (v:Value) (F:List Nat),(∀ b∈F,w'.heap[b]?=w.heap[b]?)->aK w M κ x v F->aK w' M' κ x v F
 | .own m d,v,F,hk,hr=>by unfold aK at *;exact gl.ext h m d v F hk hr
 | .agg cs,v,F,hk,hr=>by
  unfold aK at *
  obtain⟨vs,hv,h1,hl⟩:=hr
  exact⟨vs,hv,h1,am.ext h cs vs F hk hl⟩
 | .tup cs,v,F,hk,hr=>by
  unfold aK at *
  obtain⟨vs,hv,hl⟩:=hr
  exact⟨vs,hv,am.ext h cs vs F hk hl⟩
 | .d _,v,F,hk,hr=>by unfold aK at *;exact⟨hr.1,hr.2.ext h⟩
 | .nils,v,F,hk,hr=>by unfold aK at *;exact⟨hr.1,hr.2.ext h⟩
 | .lit _ _ _,v,F,hk,hr=>by unfold aK at *;exact⟨hr.1,hr.2.ext h⟩
 | .ref _ _,v,F,hk,hr=>by unfold aK at *;exact⟨hr.1,hr.2.ext h⟩
 | .vec _,v,F,hk,hr=>by unfold aK at *;exact⟨hr.1,hr.2.ext h⟩
 | .vref _ _ _ _,v,F,hk,hr=>by unfold aK at *;exact⟨hr.1,hr.2.ext h⟩
 | .mp _,v,F,hk,hr=>by unfold aK at *;exact⟨hr.1,hr.2.ext h⟩
 | .clo _ _,v,F,hk,hr=>by unfold aK at *;exact⟨hr.1,hr.2.ext h⟩
theorem am.ext {w w':World} {M M':Nat->Prop} {κ:Nat->Value} (h:lL w M w' M'):∀ (cs:List SV) (vs:List Value) (F:List Nat),(∀ b∈F,w'.heap[b]?=w.heap[b]?)->am w M κ cs vs F->am w' M' κ cs vs F
 |[],vs,F,_,hr=>by unfold am at *;exact hr
 |c::cs,vs,F,hk,hr=>by
  unfold am at *
  obtain⟨u,us,F1,F2,hv,rfl,h1,h2⟩:=hr
  exact⟨u,us,F1,F2,hv,rfl,aK.ext h c u F1 (fun b hb=>hk b (by simp[hb])) h1,am.ext h cs us F2 (fun b hb=>hk b (by simp[hb])) h2⟩
end
mutual
theorem aK.of_S {w:World} {M:Nat->Prop} {κ:Nat->Value}:∀ (x:SV) (v:Value),ae w M κ x v->aK w M κ x v []
 | .own m d,v,hr=>by unfold ae at hr;exact hr.elim
 | .agg cs,v,hr=>by
  unfold ae at hr;unfold aK
  obtain⟨vs,hv,h1,hl⟩:=hr
  exact⟨vs,hv,h1,am.of_S cs vs hl⟩
 | .tup cs,v,hr=>by
  unfold ae at hr;unfold aK
  obtain⟨vs,hv,hl⟩:=hr
  exact⟨vs,hv,am.of_S cs vs hl⟩
 | .d _,v,hr=>by unfold aK;exact⟨rfl,hr⟩
 | .nils,v,hr=>by unfold aK;exact⟨rfl,hr⟩
 | .lit _ _ _,v,hr=>by unfold aK;exact⟨rfl,hr⟩
 | .ref _ _,v,hr=>by unfold aK;exact⟨rfl,hr⟩
 | .vec _,v,hr=>by unfold aK;exact⟨rfl,hr⟩
 | .vref _ _ _ _,v,hr=>by unfold aK;exact⟨rfl,hr⟩
 | .mp _,v,hr=>by unfold aK;exact⟨rfl,hr⟩
 | .clo _ _,v,hr=>by unfold aK;exact⟨rfl,hr⟩
theorem am.of_S {w:World} {M:Nat->Prop} {κ:Nat->Value}:∀ (cs:List SV) (vs:List Value),ai w M κ cs vs->am w M κ cs vs []
 |[],vs,hr=>by unfold ai at hr;unfold am;exact⟨hr,rfl⟩
 |c::cs,vs,hr=>by
  unfold ai at hr;unfold am
  obtain⟨u,us,hv,h1,h2⟩:=hr
  exact⟨u,us,[],[],hv,rfl,aK.of_S c u h1,am.of_S cs us h2⟩
end
mutual
def SV.noOwn:SV->Bool
 | .own _ _=>false
 | .agg cs=>SV.noOwns cs
 | .tup cs=>SV.noOwns cs
 | .d _=>true
 | .nils=>true
 | .lit _ _ _=>true
 | .ref _ _=>true
 | .vec _=>true
 | .vref _ _ _ _=>true
 | .mp _=>true
 | .clo _ _=>true
def SV.noOwns:List SV->Bool
 |[]=>true
 |c::cs=>SV.noOwn c&&SV.noOwns cs
end
mutual
theorem aK.to_S {w:World} {M:Nat->Prop} {κ:Nat->Value}:∀ (x:SV) (v:Value) (F:List Nat),x.noOwn=true->aK w M κ x v F->ae w M κ x v/\F=[]
 | .own m d,v,F,hn,hr=>by simp[SV.noOwn] at hn
 | .agg cs,v,F,hn,hr=>by
  unfold aK at hr
  unfold ae
  obtain⟨vs,hv,h1,hl⟩:=hr
  obtain⟨h2,h3⟩:=am.to_S cs vs F (by simpa[SV.noOwn] using hn) hl
  exact⟨⟨vs,hv,h1,h2⟩,h3⟩
 | .tup cs,v,F,hn,hr=>by
  unfold aK at hr
  unfold ae
  obtain⟨vs,hv,hl⟩:=hr
  obtain⟨h2,h3⟩:=am.to_S cs vs F (by simpa[SV.noOwn] using hn) hl
  exact⟨⟨vs,hv,h2⟩,h3⟩
 | .d _,v,F,hn,hr=>by unfold aK at hr;exact⟨hr.2,hr.1⟩
 | .nils,v,F,hn,hr=>by unfold aK at hr;exact⟨hr.2,hr.1⟩
 | .lit _ _ _,v,F,hn,hr=>by unfold aK at hr;exact⟨hr.2,hr.1⟩
 | .ref _ _,v,F,hn,hr=>by unfold aK at hr;exact⟨hr.2,hr.1⟩
 | .vec _,v,F,hn,hr=>by unfold aK at hr;exact⟨hr.2,hr.1⟩
 | .vref _ _ _ _,v,F,hn,hr=>by unfold aK at hr;exact⟨hr.2,hr.1⟩
 | .mp _,v,F,hn,hr=>by unfold aK at hr;exact⟨hr.2,hr.1⟩
 | .clo _ _,v,F,hn,hr=>by unfold aK at hr;exact⟨hr.2,hr.1⟩
theorem am.to_S {w:World} {M:Nat->Prop} {κ:Nat->Value}:∀ (cs:List SV) (vs:List Value) (F:List Nat),SV.noOwns cs=true->am w M κ cs vs F->ai w M κ cs vs/\F=[]
 |[],vs,F,hn,hr=>by unfold am at hr;unfold ai;exact hr
 |c::cs,vs,F,hn,hr=>by
  unfold am at hr;unfold ai
  obtain⟨u,us,F1,F2,hv,rfl,h1,h2⟩:=hr
  simp only[SV.noOwns,Oz] at hn
  obtain⟨k1,rfl⟩:=aK.to_S c u F1 hn.1 h1
  obtain⟨k2,rfl⟩:=am.to_S cs us F2 hn.2 h2
  exact⟨⟨u,us,hv,k1,k2⟩,rfl⟩
end
def Mc (κ:Nat->Value):Prop:=∀ id,(κ id).oneCell'=true
def bk (w:World) (M:Nat->Prop) (κ:Nat->Value) (kk:KK):List (DV×SV)->List MapEntry->List Nat->Prop
 |[],es,F=>es=[]/\F=[]
 |(k,c)::kv,es,F=>∃ e rest F1 F2,es=e::rest/\F=F1++F2/\kk.fits k=true/\dD k=some e.key/\aK w M κ c e.val F1/\bk w M κ kk kv rest F2
def kj (w:World) (M:Nat->Prop) (κ:Nat->Value) (id:Nat):Ch->List Nat->Prop
 | .dead,F=>F=[]
 | .box cs,F=>∃ b T vs G,κ id= .pointer (some ⟨b,0,none⟩)/\w.heap[b]?=some (.cells (List.toArray vs) T (0,0))/\(∀ x∈vs,x.oneCell'=true)/\am w M κ cs vs G/\F=b::G
 | .vec e sz rows,F=>∃ xs G,w.ownsRow 0 e sz (κ id) rows.length xs/\(∀ x∈xs,x.oneCell'=true)/\(∀ r∈rows,r.length=sz)/\am w M κ rows.flatten xs G/\F=kh (κ id)++G
 | .map kk kv,F=>∃ r es clock G,κ id= .map (some r)/\w.heap[r]?=some (.map (List.toArray es) clock)/\DI es clock/\bk w M κ kk kv es G/\F=r::G
 | .bld T e bs,F=>zL w T e bs (κ id) F
def I5:List (Nat×IntKind×List Int):=[(5,.u64,(List.range 20).map fun i=>((10^i:Nat):Int)),(0,.i64,[])]
def uz (w:World) (t:Nat×IntKind×List Int):Prop:=
 (t.2.2=[]/\∃ m,w.cell? ⟨t.1,0,none⟩=some (.int t.2.1 m))\/(t.2.2≠[]/\∃ u f,w.heap[t.1]?=some (.cells (t.2.2.map fun z=>Value.int t.2.1 z).toArray u f))
theorem uz.int {w:World} {t:Nat×IntKind×List Int} (h:uz w t) (hn:t.2.2=[]):∃ m,w.cell? ⟨t.1,0,none⟩=some (.int t.2.1 m):=by
 rcases h with⟨_,h⟩|⟨h,_⟩
 ·exact h
 ·exact absurd hn h
theorem uz.keep {w w':World} {t:Nat×IntKind×List Int} (h:uz w t) (hk:w'.heap[t.1]?=w.heap[t.1]?):uz w' t:=by
 rcases h with⟨h1,m,h2⟩|⟨h1,u,f,h2⟩
 ·refine .inl ⟨h1,m, ?_⟩
  unfold World.cell? at h2⊢
  simp only at h2⊢
  rw[hk];exact h2
 ·exact .inr ⟨h1,u,f,by rw[hk];exact h2⟩
def wY (w:World):Prop:=∀ t∈I5,uz w t
def EB (A:Nat->Prop):Prop:=∀ t∈I5,¬ A t.1
theorem uz.lt {w:World} {t:Nat×IntKind×List Int} (h:uz w t):t.1<w.heap.size:=by
 rcases h with⟨_,m,h⟩|⟨_,u,f,h⟩
 ·unfold World.cell? at h
  simp only at h
  by_cases hlt:t.1<w.heap.size
  ·exact hlt
  ·rw[Array.getElem?_eq_none oM] at h;cases h
 ·exact(Pw.1 h).1
theorem wY.below {w w':World} (h:wY w) (hb:Below w.heap.size w w'):wY w':=fun t ht=>(h t ht).keep (hb.block t.1 (h t ht).lt)
structure Cx where
 B:Nat
 w0:World
 M0:Nat->Prop
 A:Nat->Prop
 N:Nat
 gs:List Value
 good:wY w0
 free:EB A
 le:w0.heap.size<=B
structure yZ (B:Nat) (A:Nat->Prop) (w w':World):Prop where
 os:w'.os=w.os
 tape:w'.tape=w.tape
 output:w'.output=w.output
 size:w.heap.size<=w'.heap.size
 block:∀ b,b<B->¬ A b->w'.heap[b]?=w.heap[b]?
theorem yZ.refl (B:Nat) (A:Nat->Prop) (w:World):yZ B A w w:=⟨rfl,rfl,rfl,OH _,fun _ _ _=>rfl⟩
theorem yZ.trans {B:Nat} {A:Nat->Prop} {w w' w'':World} (h:yZ B A w w') (k:yZ B A w' w''):yZ B A w w'':=
 ⟨k.os.trans h.os,k.tape.trans h.tape,k.output.trans h.output,PA h.size k.size,fun b hb ha=>(k.block b hb ha).trans (h.block b hb ha)⟩
theorem yZ.mono {B B':Nat} {A A':Nat->Prop} {w w':World} (h:yZ B A w w') (hB:B'<=B) (hA:∀ b,b<B'->A b->A' b):yZ B' A' w w':=
 ⟨h.os,h.tape,h.output,h.size,fun b hb ha=>h.block b oM fun h'=>ha (hA b hb h')⟩
theorem yZ.of_below {B:Nat} {A:Nat->Prop} {w w':World} (h:Below B w w'):yZ B A w w':=⟨h.os,h.tape,h.output,h.size,fun b hb _=>h.block b hb⟩
theorem yZ.below {B:Nat} {A:Nat->Prop} {w w':World} (h:yZ B A w w') (hA:∀ b,¬ A b):Below B w w':=⟨h.os,h.tape,h.output,h.size,fun b hb=>h.block b hb (hA b)⟩
def own (c:Cx) (φ:Nat->List Nat) (b:Nat):Prop:=c.M0 b\/∃ id,b∈φ id
structure cE (c:Cx) (σ:St) (κ:Nat->Value) (φ:Nat->List Nat) (a:Act) (w:World):Prop where
 chg:yZ c.B c.A c.w0 w
 size:c.B<=w.heap.size
 m0:∀ b,c.M0 b->b<c.B/\¬ c.A b
 ntmps:a.tmps.size=c.N
 defers:a.defers=[]
 kok:Mc κ
 slots:∀ i,i<c.N->ae w (own c φ) κ (σ.s i) (a.tmps.getD i undef)
 ghost:∀ i v,c.gs[i]?=some v->ae w (own c φ) κ (σ.s (c.N+i)) v
 chunks:∀ id,kj w (own c φ) κ id (σ.h id) (φ id)
 mine:∀ id b,b∈φ id->b<w.heap.size/\(c.B<=b\/c.A b)
 nod:∀ id,(φ id).Nodup
 sep:∀ i j b,i≠j->b∈φ i->b∈φ j->False
theorem cE.good {c:Cx} {σ:St} {κ:Nat->Value} {φ:Nat->List Nat} {a:Act} {w:World} (h:cE c σ κ φ a w):wY w:=fun t ht=>
 (c.good t ht).keep (h.chg.block t.1 (O4 (c.good t ht).lt c.le) (c.free t ht))
theorem cE.free {c:Cx} {σ:St} {κ:Nat->Value} {φ:Nat->List Nat} {a:Act} {w:World} (h:cE c σ κ φ a w) {id:Nat}:EB (· ∈φ id):=fun t ht hb=>by
 rcases(h.mine id t.1 hb).2 with h1|h1
 ·have:=O4 (c.good t ht).lt c.le;omega
 ·exact c.free t ht h1
theorem cE.own_lt {c:Cx} {σ:St} {κ:Nat->Value} {φ:Nat->List Nat} {a:Act} {w:World} (h:cE c σ κ φ a w) {b:Nat} (hb:own c φ b):b<w.heap.size:=by
 rcases hb with hb|⟨id,hb⟩
 ·exact O4 (h.m0 b hb).1 h.size
 ·exact(h.mine id b hb).1
theorem bk.ext {w w':World} {M M':Nat->Prop} {κ:Nat->Value} {kk:KK} (h:lL w M w' M'):∀ (kv:List (DV×SV)) (es:List MapEntry) (F:List Nat),(∀ b∈F,w'.heap[b]?=w.heap[b]?)->bk w M κ kk kv es F->bk w' M' κ kk kv es F
 |[],es,F,_,hr=>by unfold bk at *;exact hr
 |(k,c)::kv,es,F,hk,hr=>by
  unfold bk at *
  obtain⟨e,rest,F1,F2,h1,rfl,h2,h3,h4,h5⟩:=hr
  exact⟨e,rest,F1,F2,h1,rfl,h2,h3,aK.ext h c _ F1 (fun b hb=>hk b (by simp[hb])) h4,bk.ext h kv rest F2 (fun b hb=>hk b (by simp[hb])) h5⟩
theorem kj.ext {w w':World} {M M':Nat->Prop} {κ:Nat->Value} {id:Nat} {c:Ch} {F:List Nat} (h:lL w M w' M') (hk:∀ b∈F,w'.heap[b]?=w.heap[b]?) (hc:kj w M κ id c F):kj w' M' κ id c F:=by
 cases c with
 |dead=>exact hc
 |box cs=>
  obtain⟨b,T,vs,G,h1,h2,h3,h4,rfl⟩:=hc
  exact⟨b,T,vs,G,h1,by rw[hk b oS];exact h2,h3,am.ext h cs vs G (fun b hb=>hk b (by simp[hb])) h4,rfl⟩
 |vec e sz rows=>
  obtain⟨xs,G,h1,h2,h3,h4,rfl⟩:=hc
  exact⟨xs,G,uy (fun b hb=>hk b (by simp[hb])) h1,h2,h3,am.ext h _ xs G (fun b hb=>hk b (by simp[hb])) h4,rfl⟩
 |map kk kv=>
  obtain⟨r,es,clock,G,h1,h2,hB,h3,rfl⟩:=hc
  exact⟨r,es,clock,G,h1,by rw[hk r oS];exact h2,hB,bk.ext h kv es G (fun b hb=>hk b (by simp[hb])) h3,rfl⟩
 |bld T e bs=>exact zL.ext hk hc
theorem lL.of_below {w w':World} {M:Nat->Prop} (h:Below w.heap.size w w'):lL w M w' M:=⟨h.size,fun b hb hm=>⟨h.block b hb,hm⟩⟩
theorem qu (t:Array Value) (d i:Nat) (v:Value):(t.setIfInBounds d v).getD i undef=if d=i/\d<t.size then v else t.getD i undef:=by
 by_cases h:d=i
 ·subst h
  by_cases hs:d<t.size<;>simp[hs]
 ·simp[h]
theorem cE.grown {c:Cx} {σ:St} {κ:Nat->Value} {φ:Nat->List Nat} {a:Act} {w w':World} (h:cE c σ κ φ a w)
  (hb:Below w.heap.size w w'):cE c σ κ φ a w':=by
 have hext:lL w (own c φ) w' (own c φ):=lL.of_below hb
 exact⟨h.chg.trans (yZ.of_below (hb.mono h.size)),PA h.size hb.size,h.m0,h.ntmps,h.defers,h.kok,fun i hi=>ae.ext hext _ _ (h.slots i hi),fun i v hv=>ae.ext hext _ _ (h.ghost i v hv),
  fun id=>(h.chunks id).ext hext fun b hbk=>hb.block b (h.mine id b hbk).1,fun id b hb'=>⟨O4 (h.mine id b hb').1 hb.size,(h.mine id b hb').2⟩,h.nod,h.sep⟩
theorem cE.putS {c:Cx} {σ:St} {κ:Nat->Value} {φ:Nat->List Nat} {a:Act} {w:World} (h:cE c σ κ φ a w) {dst:Nat} {x:SV} {v:Value} (hd':dst<c.N)
  (hx:ae w (own c φ) κ x v):cE c {σ with s:=aH σ.s dst x} κ φ (a.put (some dst) v) w:=by
 refine⟨h.chg,h.size,h.m0,by simp[Act.put,h.ntmps],h.defers,h.kok,fun i hi=> ?_,fun i v hv=>by dsimp only;rw[bf _ _ _ _ oM];exact h.ghost i v hv,h.chunks,h.mine,h.nod,h.sep⟩
 simp only[Act.put,qu]
 by_cases hd:dst=i
 ·subst hd;simp[h.ntmps,hi,an,hx]
 ·simp only[hd,false_and,Pp]
  rw[bf _ _ _ _ (fun e=>hd e.symm)]
  exact h.slots i hi
theorem cE.put {c:Cx} {σ:St} {κ:Nat->Value} {φ:Nat->List Nat} {a:Act} {w w':World} (h:cE c σ κ φ a w) {dst:Nat} {x:SV} {v:Value} (hd':dst<c.N)
  (hb:Below w.heap.size w w') (hx:ae w' (own c φ) κ x v):cE c {σ with s:=aH σ.s dst x} κ φ (a.put (some dst) v) w':=(h.grown hb).putS hd' hx
