/-
  My text.
-/
import Derived.Test.YtgocgdgknpdknaaGreatDoorSXEngA
namespace Go.Proofs.YtgocgdgknpdknaaGreatDoor
set_option linter.unusedVariables false
open Go.RowKit
inductive SV where
 |d (v:DV)
 |nils
 |lit (sz n:Nat) (cs:List SV)
 |agg (cs:List SV)
 |tup (cs:List SV)
 |ref (id off:Nat)
 |vec (id:Nat)
 |vref (id sz i off:Nat)
 |mp (id:Nat)
 |own (m:bQ) (v:DV)
def dW {α:Type} (sz:Nat):Nat->List α->List (List α)
 |0,_=>[]
 |n+1,l=>l.take sz::dW sz n (l.drop sz)
theorem eZ {α:Type} (sz:Nat):∀ (n:Nat) (l:List α),(dW sz n l).length=n
 |0,_=>rfl
 |n+1,l=>by simp[dW,eZ sz n]
theorem kf {α:Type} (sz:Nat):∀ (n:Nat) (l:List α),l.length=n * sz->(dW sz n l).flatten=l
 |0,l,h=>by simp at h;subst h;rfl
 |n+1,l,h=>by
  rw[KT] at h
  simp only[dW,Kv]
  rw[kf sz n _ oT,KB]
theorem pO {α:Type} (sz:Nat):∀ (n:Nat) (l:List α),l.length=n * sz->∀ r∈dW sz n l,r.length=sz
 |0,l,_,r,hr=>by simp[dW] at hr
 |n+1,l,h,r,hr=>by
  rw[KT] at h
  simp only[dW,J2] at hr
  rcases hr with rfl|hr
  ·simp;omega
  ·exact pO sz n _ oT r hr
mutual
def SV.toDV:SV->Option DV
 | .d v=>some v
 | .nils=>some (.slice [])
 | .lit sz n cs=>match SV.toDVs cs with|some xs=>some (.slice (dW sz n xs))|none=>none
 | .agg cs=>match SV.toDVs cs with|some xs=>some (.agg xs)|none=>none
 | .tup cs=>match SV.toDVs cs with|some xs=>some (.tup xs)|none=>none
 | .ref _ _=>none
 | .vec _=>none
 | .vref _ _ _ _=>none
 | .mp _=>none
 | .own _ _=>none
def SV.toDVs:List SV->Option (List DV)
 |[]=>some []
 |c::cs=>match SV.toDV c,SV.toDVs cs with|some x,some xs=>some (x::xs)|_,_=>none
end
inductive Ch where
 |dead
 |box (cells:List SV)
 |vec (e sz:Nat) (rows:List (List SV))
 |map (kk:KK) (kv:List (DV×SV))
 |bld (T e:Nat) (bs:List UInt8)
structure St where
 s:Nat->SV
 h:Nat->Ch
def aI {α:Type} (f:Nat->α) (i:Nat) (v:α):Nat->α:=fun j=>if j=i then v else f j
theorem am {α:Type} (f:Nat->α) (i:Nat) (v:α):aI f i v i=v:=by simp[aI]
theorem bd {α:Type} (f:Nat->α) (i j:Nat) (v:α) (h:j≠i):aI f i v j=f j:=by simp[aI,h]
mutual
def ae (w:World) (M:Nat->Prop) (κ:Nat->Value):SV->Value->Prop
 | .d v,u=>aD w M v u
 | .nils,u=>u= .slice none 0 0
 | .lit sz n cs,u=>∃ b,∃ vs:List Value,u= .slice (some ⟨b,0,none⟩) n n/\¬ M b/\b<w.heap.size/\vs.length=n * sz/\(∀ x∈vs,x.oneCell'=true)/\(∀ j v,vs[j]?=some v->w.cell? ⟨b,j,none⟩=some v)/\ai w M κ cs vs
 | .agg cs,u=>∃ vs:List Value,u= .agg vs.toArray/\(∀ x∈vs,x.oneCell'=true)/\ai w M κ cs vs
 | .tup cs,u=>∃ vs:List Value,u= .tuple vs.toArray/\ai w M κ cs vs
 | .ref id off,u=>∃ b,κ id= .pointer (some ⟨b,0,none⟩)/\u= .pointer (some ⟨b,off,none⟩)
 | .vec id,u=>u=κ id
 | .vref id sz i off,u=>∃ b len cap,κ id= .slice (some ⟨b,0,none⟩) len cap/\u= .pointer (some ⟨b,i * sz+off,none⟩)
 | .mp id,u=>u=κ id
 | .own _ _,_=>False
def ai (w:World) (M:Nat->Prop) (κ:Nat->Value):List SV->List Value->Prop
 |[],vs=>vs=[]
 |c::cs,vs=>∃ u us,vs=u::us/\ae w M κ c u/\ai w M κ cs us
end
mutual
theorem ae.ext {w w':World} {M M':Nat->Prop} {κ:Nat->Value} (h:kc w M w' M'):∀ (x:SV) (v:Value),ae w M κ x v->ae w' M' κ x v
 | .d x,v,hr=>by unfold ae at *;exact hr.ext h
 | .nils,v,hr=>by unfold ae at *;exact hr
 | .lit sz n cs,v,hr=>by
  unfold ae at *
  obtain⟨b,vs,h1,h2,h3,h4,h5,h6,h7⟩:=hr
  exact⟨b,vs,h1,(h.keep b h3 h2).2,Kb h3 h.size,h4,h5,fun j v hj=>by rw[h.cell h3 h2];exact h6 j v hj,ai.ext h cs vs h7⟩
 | .agg cs,v,hr=>by
  unfold ae at *
  obtain⟨vs,hv,h1,hl⟩:=hr
  exact⟨vs,hv,h1,ai.ext h cs vs hl⟩
 | .tup cs,v,hr=>by
  unfold ae at *
  obtain⟨vs,hv,hl⟩:=hr
  exact⟨vs,hv,ai.ext h cs vs hl⟩
 | .ref _ _,v,hr=>by unfold ae at *;exact hr
 | .vec _,v,hr=>by unfold ae at *;exact hr
 | .vref _ _ _ _,v,hr=>by unfold ae at *;exact hr
 | .mp _,v,hr=>by unfold ae at *;exact hr
 | .own _ _,v,hr=>by unfold ae at *;exact hr
theorem ai.ext {w w':World} {M M':Nat->Prop} {κ:Nat->Value} (h:kc w M w' M'):∀ (cs:List SV) (vs:List Value),ai w M κ cs vs->ai w' M' κ cs vs
 |[],vs,hr=>by unfold ai at *;exact hr
 |c::cs,vs,hr=>by
  unfold ai at *
  obtain⟨u,us,hv,h1,h2⟩:=hr
  exact⟨u,us,hv,ae.ext h c u h1,ai.ext h cs us h2⟩
end
theorem aZ.of_cells {w:World} {M:Nat->Prop}:∀ {cs:List DV} {vs:List Value} {b o:Nat},av w M cs vs->(∀ x∈vs,x.oneCell'=true)->(∀ j v,vs[j]?=some v->w.cell? ⟨b,o+j,none⟩=some v)->aZ w M cs b o
 |[],vs,b,o,_,_,_=>by unfold aZ;trivial
 |c::cs,vs,b,o,h,h1,h2=>by
  unfold av at h
  obtain⟨u,us,rfl,h3,h4⟩:=h
  unfold aZ
  exact⟨⟨u,by simpa using h2 0 u oS,h1 u oS,h3⟩,aZ.of_cells h4 (fun x hx=>h1 x (by simp[hx])) fun j v hj=>by
   have:=h2 (j+1) v (by simpa using hj)
   rwa[show o+(j+1)=o+1+j by omega] at this⟩
theorem av.len {w:World} {M:Nat->Prop}:∀ {cs:List DV} {vs:List Value},av w M cs vs->vs.length=cs.length
 |[],vs,h=>by unfold av at h;simp[h]
 |c::cs,vs,h=>by unfold av at h;obtain⟨u,us,rfl,_,h2⟩:=h;simp[av.len h2]
theorem av.cut {w:World} {M:Nat->Prop}:∀ {cs:List DV} {vs:List Value} (n:Nat),av w M cs vs->av w M (cs.take n) (vs.take n)/\av w M (cs.drop n) (vs.drop n)
 |cs,vs,0,h=>by simpa[av] using h
 |[],vs,n+1,h=>by unfold av at h;subst h;simp[av]
 |c::cs,vs,n+1,h=>by
  unfold av at h
  obtain⟨u,us,rfl,h1,h2⟩:=h
  obtain⟨h3,h4⟩:=av.cut n h2
  simp only[Lr,List.drop_succ_cons]
  refine⟨?_,h4⟩
  unfold av
  exact⟨u,_,rfl,h1,h3⟩
theorem aE.of_cells {w:World} {M:Nat->Prop} {sz:Nat}:∀ {n:Nat} {xs:List DV} {vs:List Value} {b o:Nat},av w M xs vs->(∀ x∈vs,x.oneCell'=true)->(∀ j v,vs[j]?=some v->w.cell? ⟨b,o+j,none⟩=some v)->xs.length=n * sz->aE w M (dW sz n xs) b o sz
 |0,xs,vs,b,o,_,_,_,_=>by unfold dW aE;trivial
 |n+1,xs,vs,b,o,h,h1,h2,hl=>by
  rw[KT] at hl
  obtain⟨h3,h4⟩:=h.cut sz
  unfold dW aE
  refine⟨by simp;omega,aZ.of_cells h3 (fun x hx=>h1 x (Kl hx)) fun j v hj=>h2 j v ?_,aE.of_cells h4 (fun x hx=>h1 x (KH hx)) (fun j v hj=> ?_) oT⟩
  ·rw[KP] at hj;split at hj
   ·exact hj
   ·cases hj
  ·rw[KI] at hj
   have:=h2 _ v hj
   rwa[show o+(sz+j)=o+sz+j by omega] at this
mutual
theorem ae.toDV {w:World} {M:Nat->Prop} {κ:Nat->Value}:∀ (x:SV) (v:Value) (d:DV),ae w M κ x v->x.toDV=some d->aD w M d v
 | .d x,v,d,hr,hd=>by
  simp only[SV.toDV,JN] at hd
  subst hd;unfold ae at hr;exact hr
 | .nils,v,d,hr,hd=>by
  simp only[SV.toDV,JN] at hd
  subst hd;unfold ae at hr;subst hr;unfold aD
  exact⟨none,0,rfl,JW _,fun _=>rfl,.inl rfl⟩
 | .lit sz n cs,v,d,hr,hd=>by
  unfold SV.toDV at hd
  unfold ae at hr
  obtain⟨b,vs,h1,h2,h3,h4,h5,h6,h7⟩:=hr
  cases hc:SV.toDVs cs with
  |none=>simp[hc] at hd
  |some xs=>
   simp only[hc,JN] at hd
   subst hd
   have hl:=ai.toDVs cs vs xs h7 hc
   unfold aD
   refine⟨some ⟨b,0,none⟩,n,by rw[eZ];exact h1,by rw[eZ];exact JW _,by simp,.inr ⟨b,0,sz,rfl,h2,h3, ?_⟩⟩
   exact aE.of_cells hl h5 (fun j v hj=>by rw[KW];exact h6 j v hj) (by rw[<-hl.len];exact h4)
 | .agg cs,v,d,hr,hd=>by
  unfold SV.toDV at hd
  unfold ae at hr
  obtain⟨vs,hv,h1,hl⟩:=hr
  cases hc:SV.toDVs cs with
  |none=>simp[hc] at hd
  |some xs=>
   simp only[hc,JN] at hd
   subst hd
   unfold aD
   exact⟨vs,hv,h1,ai.toDVs cs vs xs hl hc⟩
 | .tup cs,v,d,hr,hd=>by
  unfold SV.toDV at hd
  unfold ae at hr
  obtain⟨vs,hv,hl⟩:=hr
  cases hc:SV.toDVs cs with
  |none=>simp[hc] at hd
  |some xs=>
   simp only[hc,JN] at hd
   subst hd
   unfold aD
   exact⟨vs,hv,ai.toDVs cs vs xs hl hc⟩
 | .ref _ _,v,d,hr,hd=>by simp[SV.toDV] at hd
 | .vec _,v,d,hr,hd=>by simp[SV.toDV] at hd
 | .vref _ _ _ _,v,d,hr,hd=>by simp[SV.toDV] at hd
 | .mp _,v,d,hr,hd=>by simp[SV.toDV] at hd
 | .own _ _,v,d,hr,hd=>by simp[SV.toDV] at hd
theorem ai.toDVs {w:World} {M:Nat->Prop} {κ:Nat->Value}:∀ (cs:List SV) (vs:List Value) (ds:List DV),ai w M κ cs vs->SV.toDVs cs=some ds->av w M ds vs
 |[],vs,ds,hr,hd=>by
  simp only[SV.toDVs,JN] at hd
  subst hd;unfold ai at hr;unfold av;exact hr
 |c::cs,vs,ds,hr,hd=>by
  unfold SV.toDVs at hd
  unfold ai at hr
  obtain⟨u,us,hv,h1,h2⟩:=hr
  cases hc:SV.toDV c with
  |none=>simp[hc] at hd
  |some x=>
   cases hcs:SV.toDVs cs with
   |none=>simp[hc,hcs] at hd
   |some xs=>
    simp only[hc,hcs,JN] at hd
    subst hd
    unfold av
    exact⟨u,us,hv,ae.toDV c u x h1 hc,ai.toDVs cs us xs h2 hcs⟩
end
mutual
def aJ (w:World) (M:Nat->Prop) (κ:Nat->Value):SV->Value->List Nat->Prop
 | .own m d,u,F=>ef w M m d u F
 | .agg cs,u,F=>∃ vs:List Value,u= .agg vs.toArray/\(∀ x∈vs,x.oneCell'=true)/\aj w M κ cs vs F
 | .tup cs,u,F=>∃ vs:List Value,u= .tuple vs.toArray/\aj w M κ cs vs F
 | .d x,u,F=>F=[]/\ae w M κ (.d x) u
 | .nils,u,F=>F=[]/\ae w M κ .nils u
 | .lit sz n cs,u,F=>F=[]/\ae w M κ (.lit sz n cs) u
 | .ref i o,u,F=>F=[]/\ae w M κ (.ref i o) u
 | .vec i,u,F=>F=[]/\ae w M κ (.vec i) u
 | .vref i s k o,u,F=>F=[]/\ae w M κ (.vref i s k o) u
 | .mp i,u,F=>F=[]/\ae w M κ (.mp i) u
def aj (w:World) (M:Nat->Prop) (κ:Nat->Value):List SV->List Value->List Nat->Prop
 |[],vs,F=>vs=[]/\F=[]
 |c::cs,vs,F=>∃ u us F1 F2,vs=u::us/\F=F1++F2/\aJ w M κ c u F1/\aj w M κ cs us F2
end
mutual
theorem aJ.ext {w w':World} {M M':Nat->Prop} {κ:Nat->Value} (h:kc w M w' M'):∀ (x:SV) (v:Value) (F:List Nat),(∀ b∈F,w'.heap[b]?=w.heap[b]?)->aJ w M κ x v F->aJ w' M' κ x v F
 | .own m d,v,F,hk,hr=>by unfold aJ at *;exact ef.ext h m d v F hk hr
 | .agg cs,v,F,hk,hr=>by
  unfold aJ at *
  obtain⟨vs,hv,h1,hl⟩:=hr
  exact⟨vs,hv,h1,aj.ext h cs vs F hk hl⟩
 | .tup cs,v,F,hk,hr=>by
  unfold aJ at *
  obtain⟨vs,hv,hl⟩:=hr
  exact⟨vs,hv,aj.ext h cs vs F hk hl⟩
 | .d _,v,F,hk,hr=>by unfold aJ at *;exact⟨hr.1,hr.2.ext h⟩
 | .nils,v,F,hk,hr=>by unfold aJ at *;exact⟨hr.1,hr.2.ext h⟩
 | .lit _ _ _,v,F,hk,hr=>by unfold aJ at *;exact⟨hr.1,hr.2.ext h⟩
 | .ref _ _,v,F,hk,hr=>by unfold aJ at *;exact⟨hr.1,hr.2.ext h⟩
 | .vec _,v,F,hk,hr=>by unfold aJ at *;exact⟨hr.1,hr.2.ext h⟩
 | .vref _ _ _ _,v,F,hk,hr=>by unfold aJ at *;exact⟨hr.1,hr.2.ext h⟩
 | .mp _,v,F,hk,hr=>by unfold aJ at *;exact⟨hr.1,hr.2.ext h⟩
theorem aj.ext {w w':World} {M M':Nat->Prop} {κ:Nat->Value} (h:kc w M w' M'):∀ (cs:List SV) (vs:List Value) (F:List Nat),(∀ b∈F,w'.heap[b]?=w.heap[b]?)->aj w M κ cs vs F->aj w' M' κ cs vs F
 |[],vs,F,_,hr=>by unfold aj at *;exact hr
 |c::cs,vs,F,hk,hr=>by
  unfold aj at *
  obtain⟨u,us,F1,F2,hv,rfl,h1,h2⟩:=hr
  exact⟨u,us,F1,F2,hv,rfl,aJ.ext h c u F1 (fun b hb=>hk b (by simp[hb])) h1,aj.ext h cs us F2 (fun b hb=>hk b (by simp[hb])) h2⟩
end
mutual
theorem aJ.of_S {w:World} {M:Nat->Prop} {κ:Nat->Value}:∀ (x:SV) (v:Value),ae w M κ x v->aJ w M κ x v []
 | .own m d,v,hr=>by unfold ae at hr;exact hr.elim
 | .agg cs,v,hr=>by
  unfold ae at hr;unfold aJ
  obtain⟨vs,hv,h1,hl⟩:=hr
  exact⟨vs,hv,h1,aj.of_S cs vs hl⟩
 | .tup cs,v,hr=>by
  unfold ae at hr;unfold aJ
  obtain⟨vs,hv,hl⟩:=hr
  exact⟨vs,hv,aj.of_S cs vs hl⟩
 | .d _,v,hr=>by unfold aJ;exact⟨rfl,hr⟩
 | .nils,v,hr=>by unfold aJ;exact⟨rfl,hr⟩
 | .lit _ _ _,v,hr=>by unfold aJ;exact⟨rfl,hr⟩
 | .ref _ _,v,hr=>by unfold aJ;exact⟨rfl,hr⟩
 | .vec _,v,hr=>by unfold aJ;exact⟨rfl,hr⟩
 | .vref _ _ _ _,v,hr=>by unfold aJ;exact⟨rfl,hr⟩
 | .mp _,v,hr=>by unfold aJ;exact⟨rfl,hr⟩
theorem aj.of_S {w:World} {M:Nat->Prop} {κ:Nat->Value}:∀ (cs:List SV) (vs:List Value),ai w M κ cs vs->aj w M κ cs vs []
 |[],vs,hr=>by unfold ai at hr;unfold aj;exact⟨hr,rfl⟩
 |c::cs,vs,hr=>by
  unfold ai at hr;unfold aj
  obtain⟨u,us,hv,h1,h2⟩:=hr
  exact⟨u,us,[],[],hv,rfl,aJ.of_S c u h1,aj.of_S cs us h2⟩
end
mutual
def SV.noOwn:SV->Bool
 | .own _ _=>false
 | .agg cs=>SV.noOwns cs
 | .tup cs=>SV.noOwns cs
 | .d _=>true
 | .nils=>true
 | .lit _ _ _=>true
 | .ref _ _=>true
 | .vec _=>true
 | .vref _ _ _ _=>true
 | .mp _=>true
def SV.noOwns:List SV->Bool
 |[]=>true
 |c::cs=>SV.noOwn c&&SV.noOwns cs
end
mutual
theorem aJ.to_S {w:World} {M:Nat->Prop} {κ:Nat->Value}:∀ (x:SV) (v:Value) (F:List Nat),x.noOwn=true->aJ w M κ x v F->ae w M κ x v/\F=[]
 | .own m d,v,F,hn,hr=>by simp[SV.noOwn] at hn
 | .agg cs,v,F,hn,hr=>by
  unfold aJ at hr
  unfold ae
  obtain⟨vs,hv,h1,hl⟩:=hr
  obtain⟨h2,h3⟩:=aj.to_S cs vs F (by simpa[SV.noOwn] using hn) hl
  exact⟨⟨vs,hv,h1,h2⟩,h3⟩
 | .tup cs,v,F,hn,hr=>by
  unfold aJ at hr
  unfold ae
  obtain⟨vs,hv,hl⟩:=hr
  obtain⟨h2,h3⟩:=aj.to_S cs vs F (by simpa[SV.noOwn] using hn) hl
  exact⟨⟨vs,hv,h2⟩,h3⟩
 | .d _,v,F,hn,hr=>by unfold aJ at hr;exact⟨hr.2,hr.1⟩
 | .nils,v,F,hn,hr=>by unfold aJ at hr;exact⟨hr.2,hr.1⟩
 | .lit _ _ _,v,F,hn,hr=>by unfold aJ at hr;exact⟨hr.2,hr.1⟩
 | .ref _ _,v,F,hn,hr=>by unfold aJ at hr;exact⟨hr.2,hr.1⟩
 | .vec _,v,F,hn,hr=>by unfold aJ at hr;exact⟨hr.2,hr.1⟩
 | .vref _ _ _ _,v,F,hn,hr=>by unfold aJ at hr;exact⟨hr.2,hr.1⟩
 | .mp _,v,F,hn,hr=>by unfold aJ at hr;exact⟨hr.2,hr.1⟩
theorem aj.to_S {w:World} {M:Nat->Prop} {κ:Nat->Value}:∀ (cs:List SV) (vs:List Value) (F:List Nat),SV.noOwns cs=true->aj w M κ cs vs F->ai w M κ cs vs/\F=[]
 |[],vs,F,hn,hr=>by unfold aj at hr;unfold ai;exact hr
 |c::cs,vs,F,hn,hr=>by
  unfold aj at hr;unfold ai
  obtain⟨u,us,F1,F2,hv,rfl,h1,h2⟩:=hr
  simp only[SV.noOwns,JO] at hn
  obtain⟨k1,rfl⟩:=aJ.to_S c u F1 hn.1 h1
  obtain⟨k2,rfl⟩:=aj.to_S cs us F2 hn.2 h2
  exact⟨⟨u,us,hv,k1,k2⟩,rfl⟩
end
def Hq (κ:Nat->Value):Prop:=∀ id,(κ id).oneCell'=true
def bi (w:World) (M:Nat->Prop) (κ:Nat->Value) (kk:KK):List (DV×SV)->List MapEntry->List Nat->Prop
 |[],es,F=>es=[]/\F=[]
 |(k,c)::kv,es,F=>∃ e rest F1 F2,es=e::rest/\F=F1++F2/\kk.fits k=true/\cC k=some e.key/\aJ w M κ c e.val F1/\bi w M κ kk kv rest F2
def kg (w:World) (M:Nat->Prop) (κ:Nat->Value) (id:Nat):Ch->List Nat->Prop
 | .dead,F=>F=[]
 | .box cs,F=>∃ b T vs G,κ id= .pointer (some ⟨b,0,none⟩)/\w.heap[b]?=some (.cells (List.toArray vs) T (0,0))/\(∀ x∈vs,x.oneCell'=true)/\aj w M κ cs vs G/\F=b::G
 | .vec e sz rows,F=>∃ xs G,w.ownsRow 0 e sz (κ id) rows.length xs/\(∀ x∈xs,x.oneCell'=true)/\(∀ r∈rows,r.length=sz)/\aj w M κ rows.flatten xs G/\F=eD (κ id)++G
 | .map kk kv,F=>∃ r es clock G,κ id= .map (some r)/\w.heap[r]?=some (.map (List.toArray es) clock)/\zw es clock/\bi w M κ kk kv es G/\F=r::G
 | .bld T e bs,F=>vI w T e bs (κ id) F
def DD:List (Nat×IntKind×List Int):=[(0,.u64,(List.range 20).map fun i=>((10^i:Nat):Int)),(1,.i64,[])]
def po (w:World) (t:Nat×IntKind×List Int):Prop:=
 (t.2.2=[]/\∃ m,w.cell? ⟨t.1,0,none⟩=some (.int t.2.1 m))\/(t.2.2≠[]/\∃ u f,w.heap[t.1]?=some (.cells (t.2.2.map fun z=>Value.int t.2.1 z).toArray u f))
theorem po.at {w:World} {t:Nat×IntKind×List Int} (h:po w t) (hn:t.2.2≠[]):∃ u f,w.heap[t.1]?=some (.cells (t.2.2.map fun z=>Value.int t.2.1 z).toArray u f):=by
 rcases h with⟨h,_⟩|⟨_,h⟩
 ·exact absurd h hn
 ·exact h
theorem po.int {w:World} {t:Nat×IntKind×List Int} (h:po w t) (hn:t.2.2=[]):∃ m,w.cell? ⟨t.1,0,none⟩=some (.int t.2.1 m):=by
 rcases h with⟨_,h⟩|⟨h,_⟩
 ·exact h
 ·exact absurd hn h
theorem po.keep {w w':World} {t:Nat×IntKind×List Int} (h:po w t) (hk:w'.heap[t.1]?=w.heap[t.1]?):po w' t:=by
 rcases h with⟨h1,m,h2⟩|⟨h1,u,f,h2⟩
 ·refine .inl ⟨h1,m, ?_⟩
  unfold World.cell? at h2⊢
  simp only at h2⊢
  rw[hk];exact h2
 ·exact .inr ⟨h1,u,f,by rw[hk];exact h2⟩
def sF (w:World):Prop:=∀ t∈DD,po w t
def Ax (A:Nat->Prop):Prop:=∀ t∈DD,¬ A t.1
theorem po.lt {w:World} {t:Nat×IntKind×List Int} (h:po w t):t.1<w.heap.size:=by
 rcases h with⟨_,m,h⟩|⟨_,u,f,h⟩
 ·unfold World.cell? at h
  simp only at h
  by_cases hlt:t.1<w.heap.size
  ·exact hlt
  ·rw[Array.getElem?_eq_none oM] at h;cases h
 ·exact(Kn.1 h).1
theorem sF.below {w w':World} (h:sF w) (hb:Below w.heap.size w w'):sF w':=fun t ht=>(h t ht).keep (hb.block t.1 (h t ht).lt)
structure Cx where
 B:Nat
 w0:World
 M0:Nat->Prop
 A:Nat->Prop
 N:Nat
 gs:List Value
 good:sF w0
 free:Ax A
 le:w0.heap.size<=B
structure tU (B:Nat) (A:Nat->Prop) (w w':World):Prop where
 os:w'.os=w.os
 tape:w'.tape=w.tape
 output:w'.output=w.output
 size:w.heap.size<=w'.heap.size
 block:∀ b,b<B->¬ A b->w'.heap[b]?=w.heap[b]?
theorem tU.refl (B:Nat) (A:Nat->Prop) (w:World):tU B A w w:=⟨rfl,rfl,rfl,JW _,fun _ _ _=>rfl⟩
theorem tU.trans {B:Nat} {A:Nat->Prop} {w w' w'':World} (h:tU B A w w') (k:tU B A w' w''):tU B A w w'':=
 ⟨k.os.trans h.os,k.tape.trans h.tape,k.output.trans h.output,KF h.size k.size,fun b hb ha=>(k.block b hb ha).trans (h.block b hb ha)⟩
theorem tU.mono {B B':Nat} {A A':Nat->Prop} {w w':World} (h:tU B A w w') (hB:B'<=B) (hA:∀ b,b<B'->A b->A' b):tU B' A' w w':=
 ⟨h.os,h.tape,h.output,h.size,fun b hb ha=>h.block b oM fun h'=>ha (hA b hb h')⟩
theorem tU.of_below {B:Nat} {A:Nat->Prop} {w w':World} (h:Below B w w'):tU B A w w':=⟨h.os,h.tape,h.output,h.size,fun b hb _=>h.block b hb⟩
theorem tU.below {B:Nat} {A:Nat->Prop} {w w':World} (h:tU B A w w') (hA:∀ b,¬ A b):Below B w w':=⟨h.os,h.tape,h.output,h.size,fun b hb=>h.block b hb (hA b)⟩
def own (c:Cx) (φ:Nat->List Nat) (b:Nat):Prop:=c.M0 b\/∃ id,b∈φ id
structure bT (c:Cx) (σ:St) (κ:Nat->Value) (φ:Nat->List Nat) (a:Act) (w:World):Prop where
 chg:tU c.B c.A c.w0 w
 size:c.B<=w.heap.size
 m0:∀ b,c.M0 b->b<c.B/\¬ c.A b
 ntmps:a.tmps.size=c.N
 defers:a.defers=[]
 kok:Hq κ
 slots:∀ i,i<c.N->ae w (own c φ) κ (σ.s i) (a.tmps.getD i undef)
 ghost:∀ i v,c.gs[i]?=some v->ae w (own c φ) κ (σ.s (c.N+i)) v
 chunks:∀ id,kg w (own c φ) κ id (σ.h id) (φ id)
 mine:∀ id b,b∈φ id->b<w.heap.size/\(c.B<=b\/c.A b)
 nod:∀ id,(φ id).Nodup
 sep:∀ i j b,i≠j->b∈φ i->b∈φ j->False
theorem bT.good {c:Cx} {σ:St} {κ:Nat->Value} {φ:Nat->List Nat} {a:Act} {w:World} (h:bT c σ κ φ a w):sF w:=fun t ht=>
 (c.good t ht).keep (h.chg.block t.1 (Kb (c.good t ht).lt c.le) (c.free t ht))
theorem bT.free {c:Cx} {σ:St} {κ:Nat->Value} {φ:Nat->List Nat} {a:Act} {w:World} (h:bT c σ κ φ a w) {id:Nat}:Ax (· ∈φ id):=fun t ht hb=>by
 rcases(h.mine id t.1 hb).2 with h1|h1
 ·have:=Kb (c.good t ht).lt c.le;omega
 ·exact c.free t ht h1
theorem bT.own_lt {c:Cx} {σ:St} {κ:Nat->Value} {φ:Nat->List Nat} {a:Act} {w:World} (h:bT c σ κ φ a w) {b:Nat} (hb:own c φ b):b<w.heap.size:=by
 rcases hb with hb|⟨id,hb⟩
 ·exact Kb (h.m0 b hb).1 h.size
 ·exact(h.mine id b hb).1
theorem bi.ext {w w':World} {M M':Nat->Prop} {κ:Nat->Value} {kk:KK} (h:kc w M w' M'):∀ (kv:List (DV×SV)) (es:List MapEntry) (F:List Nat),(∀ b∈F,w'.heap[b]?=w.heap[b]?)->bi w M κ kk kv es F->bi w' M' κ kk kv es F
 |[],es,F,_,hr=>by unfold bi at *;exact hr
 |(k,c)::kv,es,F,hk,hr=>by
  unfold bi at *
  obtain⟨e,rest,F1,F2,h1,rfl,h2,h3,h4,h5⟩:=hr
  exact⟨e,rest,F1,F2,h1,rfl,h2,h3,aJ.ext h c _ F1 (fun b hb=>hk b (by simp[hb])) h4,bi.ext h kv rest F2 (fun b hb=>hk b (by simp[hb])) h5⟩
theorem kg.ext {w w':World} {M M':Nat->Prop} {κ:Nat->Value} {id:Nat} {c:Ch} {F:List Nat} (h:kc w M w' M') (hk:∀ b∈F,w'.heap[b]?=w.heap[b]?) (hc:kg w M κ id c F):kg w' M' κ id c F:=by
 cases c with
 |dead=>exact hc
 |box cs=>
  obtain⟨b,T,vs,G,h1,h2,h3,h4,rfl⟩:=hc
  exact⟨b,T,vs,G,h1,by rw[hk b oS];exact h2,h3,aj.ext h cs vs G (fun b hb=>hk b (by simp[hb])) h4,rfl⟩
 |vec e sz rows=>
  obtain⟨xs,G,h1,h2,h3,h4,rfl⟩:=hc
  exact⟨xs,G,qM (fun b hb=>hk b (by simp[hb])) h1,h2,h3,aj.ext h _ xs G (fun b hb=>hk b (by simp[hb])) h4,rfl⟩
 |map kk kv=>
  obtain⟨r,es,clock,G,h1,h2,hB,h3,rfl⟩:=hc
  exact⟨r,es,clock,G,h1,by rw[hk r oS];exact h2,hB,bi.ext h kv es G (fun b hb=>hk b (by simp[hb])) h3,rfl⟩
 |bld T e bs=>exact vI.ext hk hc
theorem kc.of_below {w w':World} {M:Nat->Prop} (h:Below w.heap.size w w'):kc w M w' M:=⟨h.size,fun b hb hm=>⟨h.block b hb,hm⟩⟩
theorem nf (t:Array Value) (d i:Nat) (v:Value):(t.setIfInBounds d v).getD i undef=if d=i/\d<t.size then v else t.getD i undef:=by
 by_cases h:d=i
 ·subst h
  by_cases hs:d<t.size<;>simp[hs]
 ·simp[h]
theorem bT.grown {c:Cx} {σ:St} {κ:Nat->Value} {φ:Nat->List Nat} {a:Act} {w w':World} (h:bT c σ κ φ a w)
  (hb:Below w.heap.size w w'):bT c σ κ φ a w':=by
 have hext:kc w (own c φ) w' (own c φ):=kc.of_below hb
 exact⟨h.chg.trans (tU.of_below (hb.mono h.size)),KF h.size hb.size,h.m0,h.ntmps,h.defers,h.kok,fun i hi=>ae.ext hext _ _ (h.slots i hi),fun i v hv=>ae.ext hext _ _ (h.ghost i v hv),
  fun id=>(h.chunks id).ext hext fun b hbk=>hb.block b (h.mine id b hbk).1,fun id b hb'=>⟨Kb (h.mine id b hb').1 hb.size,(h.mine id b hb').2⟩,h.nod,h.sep⟩
theorem bT.putS {c:Cx} {σ:St} {κ:Nat->Value} {φ:Nat->List Nat} {a:Act} {w:World} (h:bT c σ κ φ a w) {dst:Nat} {x:SV} {v:Value} (hd':dst<c.N)
  (hx:ae w (own c φ) κ x v):bT c {σ with s:=aI σ.s dst x} κ φ (a.put (some dst) v) w:=by
 refine⟨h.chg,h.size,h.m0,by simp[Act.put,h.ntmps],h.defers,h.kok,fun i hi=> ?_,fun i v hv=>by dsimp only;rw[bd _ _ _ _ oM];exact h.ghost i v hv,h.chunks,h.mine,h.nod,h.sep⟩
 simp only[Act.put,nf]
 by_cases hd:dst=i
 ·subst hd;simp[h.ntmps,hi,am,hx]
 ·simp only[hd,false_and,KG]
  rw[bd _ _ _ _ (fun e=>hd e.symm)]
  exact h.slots i hi
theorem bT.put {c:Cx} {σ:St} {κ:Nat->Value} {φ:Nat->List Nat} {a:Act} {w w':World} (h:bT c σ κ φ a w) {dst:Nat} {x:SV} {v:Value} (hd':dst<c.N)
  (hb:Below w.heap.size w w') (hx:ae w' (own c φ) κ x v):bT c {σ with s:=aI σ.s dst x} κ φ (a.put (some dst) v) w':=(h.grown hb).putS hd' hx
