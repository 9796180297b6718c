/-
  My text.
-/
import Derived.Test.YtgmnipfafmphaaaGreatDoorSZEngA
namespace Go.Proofs.YtgmnipfafmphaaaGreatDoor
set_option linter.unusedSimpArgs false
set_option linter.unusedVariables false
open Go.RowKit
inductive SV where
 |d (v:DV)
 |nils
 |lit (sz n:Nat) (cs:List SV)
 |agg (cs:List SV)
 |tup (cs:List SV)
 |ref (id off:Nat)
 |vec (id:Nat)
 |vref (id sz i off:Nat)
 |mp (id:Nat)
 |own (m:aL) (v:DV)
def dO {α:Type} (sz:Nat):Nat->List α->List (List α)
 |0,_=>[]
 |n+1,l=>l.take sz::dO sz n (l.drop sz)
theorem ee {α:Type} (sz:Nat):∀ (n:Nat) (l:List α),(dO sz n l).length=n
 |0,_=>rfl
 |n+1,l=>by simp[dO,ee sz n]
theorem jq {α:Type} (sz:Nat):∀ (n:Nat) (l:List α),l.length=n * sz->(dO sz n l).flatten=l
 |0,l,h=>by simp at h;subst h;rfl
 |n+1,l,h=>by
  rw[LU] at h
  simp only[dO,LC]
  rw[jq sz n _ oT,Lg]
theorem nB {α:Type} (sz:Nat):∀ (n:Nat) (l:List α),l.length=n * sz->∀ r∈dO sz n l,r.length=sz
 |0,l,_,r,hr=>by simp[dO] at hr
 |n+1,l,h,r,hr=>by
  rw[LU] at h
  simp only[dO,Li] at hr
  rcases hr with rfl|hr
  ·simp;omega
  ·exact nB sz n _ oT r hr
mutual
def SV.toDV:SV->Option DV
 | .d v=>some v
 | .nils=>some (.slice [])
 | .lit sz n cs=>match SV.toDVs cs with|some xs=>some (.slice (dO sz n xs))|none=>none
 | .agg cs=>match SV.toDVs cs with|some xs=>some (.agg xs)|none=>none
 | .tup cs=>match SV.toDVs cs with|some xs=>some (.tup xs)|none=>none
 | .ref _ _=>none
 | .vec _=>none
 | .vref _ _ _ _=>none
 | .mp _=>none
 | .own _ _=>none
def SV.toDVs:List SV->Option (List DV)
 |[]=>some []
 |c::cs=>match SV.toDV c,SV.toDVs cs with|some x,some xs=>some (x::xs)|_,_=>none
end
inductive Ch where
 |dead
 |box (cells:List SV)
 |vec (e sz:Nat) (rows:List (List SV))
 |map (kk:KK) (kv:List (DV×SV))
 |bld (T e:Nat) (bs:List UInt8)
structure St where
 s:Nat->SV
 h:Nat->Ch
def ak {α:Type} (f:Nat->α) (i:Nat) (v:α):Nat->α:=fun j=>if j=i then v else f j
theorem al {α:Type} (f:Nat->α) (i:Nat) (v:α):ak f i v i=v:=by simp[ak]
theorem aP {α:Type} (f:Nat->α) (i j:Nat) (v:α) (h:j≠i):ak f i v j=f j:=by simp[ak,h]
mutual
def ag (w:World) (M:Nat->Prop) (κ:Nat->Value):SV->Value->Prop
 | .d v,u=>aJ w M v u
 | .nils,u=>u= .slice none 0 0
 | .lit sz n cs,u=>∃ b,∃ vs:List Value,u= .slice (some ⟨b,0,none⟩) n n/\¬ M b/\b<w.heap.size/\vs.length=n * sz/\(∀ x∈vs,x.oneCell'=true)/\(∀ j v,vs[j]?=some v->w.cell? ⟨b,j,none⟩=some v)/\ai w M κ cs vs
 | .agg cs,u=>∃ vs:List Value,u= .agg vs.toArray/\(∀ x∈vs,x.oneCell'=true)/\ai w M κ cs vs
 | .tup cs,u=>∃ vs:List Value,u= .tuple vs.toArray/\ai w M κ cs vs
 | .ref id off,u=>∃ b,κ id= .pointer (some ⟨b,0,none⟩)/\u= .pointer (some ⟨b,off,none⟩)
 | .vec id,u=>u=κ id
 | .vref id sz i off,u=>∃ b len cap,κ id= .slice (some ⟨b,0,none⟩) len cap/\u= .pointer (some ⟨b,i * sz+off,none⟩)
 | .mp id,u=>u=κ id
 | .own _ _,_=>False
def ai (w:World) (M:Nat->Prop) (κ:Nat->Value):List SV->List Value->Prop
 |[],vs=>vs=[]
 |c::cs,vs=>∃ u us,vs=u::us/\ag w M κ c u/\ai w M κ cs us
end
mutual
theorem ag.ext {w w':World} {M M':Nat->Prop} {κ:Nat->Value} (h:gh w M w' M'):∀ (x:SV) (v:Value),ag w M κ x v->ag w' M' κ x v
 | .d x,v,hr=>by unfold ag at *;exact hr.ext h
 | .nils,v,hr=>by unfold ag at *;exact hr
 | .lit sz n cs,v,hr=>by
  unfold ag at *
  obtain⟨b,vs,h1,h2,h3,h4,h5,h6,h7⟩:=hr
  exact⟨b,vs,h1,(h.keep b h3 h2).2,Lz h3 h.size,h4,h5,fun j v hj=>by rw[h.cell h3 h2];exact h6 j v hj,ai.ext h cs vs h7⟩
 | .agg cs,v,hr=>by
  unfold ag at *
  obtain⟨vs,hv,h1,hl⟩:=hr
  exact⟨vs,hv,h1,ai.ext h cs vs hl⟩
 | .tup cs,v,hr=>by
  unfold ag at *
  obtain⟨vs,hv,hl⟩:=hr
  exact⟨vs,hv,ai.ext h cs vs hl⟩
 | .ref _ _,v,hr=>by unfold ag at *;exact hr
 | .vec _,v,hr=>by unfold ag at *;exact hr
 | .vref _ _ _ _,v,hr=>by unfold ag at *;exact hr
 | .mp _,v,hr=>by unfold ag at *;exact hr
 | .own _ _,v,hr=>by unfold ag at *;exact hr
theorem ai.ext {w w':World} {M M':Nat->Prop} {κ:Nat->Value} (h:gh w M w' M'):∀ (cs:List SV) (vs:List Value),ai w M κ cs vs->ai w' M' κ cs vs
 |[],vs,hr=>by unfold ai at *;exact hr
 |c::cs,vs,hr=>by
  unfold ai at *
  obtain⟨u,us,hv,h1,h2⟩:=hr
  exact⟨u,us,hv,ag.ext h c u h1,ai.ext h cs us h2⟩
end
theorem bj.of_cells {w:World} {M:Nat->Prop}:∀ {cs:List DV} {vs:List Value} {b o:Nat},an w M cs vs->(∀ x∈vs,x.oneCell'=true)->(∀ j v,vs[j]?=some v->w.cell? ⟨b,o+j,none⟩=some v)->bj w M cs b o
 |[],vs,b,o,_,_,_=>by unfold bj;trivial
 |c::cs,vs,b,o,h,h1,h2=>by
  unfold an at h
  obtain⟨u,us,rfl,h3,h4⟩:=h
  unfold bj
  exact⟨⟨u,by simpa using h2 0 u oS,h1 u oS,h3⟩,bj.of_cells h4 (fun x hx=>h1 x (by simp[hx])) fun j v hj=>by
   have:=h2 (j+1) v (by simpa using hj)
   rwa[show o+(j+1)=o+1+j by omega] at this⟩
theorem an.len {w:World} {M:Nat->Prop}:∀ {cs:List DV} {vs:List Value},an w M cs vs->vs.length=cs.length
 |[],vs,h=>by unfold an at h;simp[h]
 |c::cs,vs,h=>by unfold an at h;obtain⟨u,us,rfl,_,h2⟩:=h;simp[an.len h2]
theorem an.cut {w:World} {M:Nat->Prop}:∀ {cs:List DV} {vs:List Value} (n:Nat),an w M cs vs->an w M (cs.take n) (vs.take n)/\an w M (cs.drop n) (vs.drop n)
 |cs,vs,0,h=>by simpa[an] using h
 |[],vs,n+1,h=>by unfold an at h;subst h;simp[an]
 |c::cs,vs,n+1,h=>by
  unfold an at h
  obtain⟨u,us,rfl,h1,h2⟩:=h
  obtain⟨h3,h4⟩:=an.cut n h2
  simp only[Mt,MO]
  refine⟨?_,h4⟩
  unfold an
  exact⟨u,_,rfl,h1,h3⟩
theorem aK.of_cells {w:World} {M:Nat->Prop} {sz:Nat}:∀ {n:Nat} {xs:List DV} {vs:List Value} {b o:Nat},an w M xs vs->(∀ x∈vs,x.oneCell'=true)->(∀ j v,vs[j]?=some v->w.cell? ⟨b,o+j,none⟩=some v)->xs.length=n * sz->aK w M (dO sz n xs) b o sz
 |0,xs,vs,b,o,_,_,_,_=>by unfold dO aK;trivial
 |n+1,xs,vs,b,o,h,h1,h2,hl=>by
  rw[LU] at hl
  obtain⟨h3,h4⟩:=h.cut sz
  unfold dO aK
  refine⟨by simp;omega,bj.of_cells h3 (fun x hx=>h1 x (Lq hx)) fun j v hj=>h2 j v ?_,aK.of_cells h4 (fun x hx=>h1 x (LW hx)) (fun j v hj=> ?_) oT⟩
  ·rw[LJ] at hj;split at hj
   ·exact hj
   ·cases hj
  ·rw[LQ] at hj
   have:=h2 _ v hj
   rwa[show o+(sz+j)=o+sz+j by omega] at this
mutual
theorem ag.toDV {w:World} {M:Nat->Prop} {κ:Nat->Value}:∀ (x:SV) (v:Value) (d:DV),ag w M κ x v->x.toDV=some d->aJ w M d v
 | .d x,v,d,hr,hd=>by
  simp only[SV.toDV,K0] at hd
  subst hd;unfold ag at hr;exact hr
 | .nils,v,d,hr,hd=>by
  simp only[SV.toDV,K0] at hd
  subst hd;unfold ag at hr;subst hr;unfold aJ
  exact⟨none,0,rfl,K9 _,fun _=>rfl,.inl rfl⟩
 | .lit sz n cs,v,d,hr,hd=>by
  unfold SV.toDV at hd
  unfold ag at hr
  obtain⟨b,vs,h1,h2,h3,h4,h5,h6,h7⟩:=hr
  cases hc:SV.toDVs cs with
  |none=>simp[hc] at hd
  |some xs=>
   simp only[hc,K0] at hd
   subst hd
   have hl:=ai.toDVs cs vs xs h7 hc
   unfold aJ
   refine⟨some ⟨b,0,none⟩,n,by rw[ee];exact h1,by rw[ee];exact K9 _,by simp,.inr ⟨b,0,sz,rfl,h2,h3, ?_⟩⟩
   exact aK.of_cells hl h5 (fun j v hj=>by rw[LF];exact h6 j v hj) (by rw[<-hl.len];exact h4)
 | .agg cs,v,d,hr,hd=>by
  unfold SV.toDV at hd
  unfold ag at hr
  obtain⟨vs,hv,h1,hl⟩:=hr
  cases hc:SV.toDVs cs with
  |none=>simp[hc] at hd
  |some xs=>
   simp only[hc,K0] at hd
   subst hd
   unfold aJ
   exact⟨vs,hv,h1,ai.toDVs cs vs xs hl hc⟩
 | .tup cs,v,d,hr,hd=>by
  unfold SV.toDV at hd
  unfold ag at hr
  obtain⟨vs,hv,hl⟩:=hr
  cases hc:SV.toDVs cs with
  |none=>simp[hc] at hd
  |some xs=>
   simp only[hc,K0] at hd
   subst hd
   unfold aJ
   exact⟨vs,hv,ai.toDVs cs vs xs hl hc⟩
 | .ref _ _,v,d,hr,hd=>by simp[SV.toDV] at hd
 | .vec _,v,d,hr,hd=>by simp[SV.toDV] at hd
 | .vref _ _ _ _,v,d,hr,hd=>by simp[SV.toDV] at hd
 | .mp _,v,d,hr,hd=>by simp[SV.toDV] at hd
 | .own _ _,v,d,hr,hd=>by simp[SV.toDV] at hd
theorem ai.toDVs {w:World} {M:Nat->Prop} {κ:Nat->Value}:∀ (cs:List SV) (vs:List Value) (ds:List DV),ai w M κ cs vs->SV.toDVs cs=some ds->an w M ds vs
 |[],vs,ds,hr,hd=>by
  simp only[SV.toDVs,K0] at hd
  subst hd;unfold ai at hr;unfold an;exact hr
 |c::cs,vs,ds,hr,hd=>by
  unfold SV.toDVs at hd
  unfold ai at hr
  obtain⟨u,us,hv,h1,h2⟩:=hr
  cases hc:SV.toDV c with
  |none=>simp[hc] at hd
  |some x=>
   cases hcs:SV.toDVs cs with
   |none=>simp[hc,hcs] at hd
   |some xs=>
    simp only[hc,hcs,K0] at hd
    subst hd
    unfold an
    exact⟨u,us,hv,ag.toDV c u x h1 hc,ai.toDVs cs us xs h2 hcs⟩
end
mutual
def ao (w:World) (M:Nat->Prop) (κ:Nat->Value):SV->Value->List Nat->Prop
 | .own m d,u,F=>dz w M m d u F
 | .agg cs,u,F=>∃ vs:List Value,u= .agg vs.toArray/\(∀ x∈vs,x.oneCell'=true)/\aj w M κ cs vs F
 | .tup cs,u,F=>∃ vs:List Value,u= .tuple vs.toArray/\aj w M κ cs vs F
 | .d x,u,F=>F=[]/\ag w M κ (.d x) u
 | .nils,u,F=>F=[]/\ag w M κ .nils u
 | .lit sz n cs,u,F=>F=[]/\ag w M κ (.lit sz n cs) u
 | .ref i o,u,F=>F=[]/\ag w M κ (.ref i o) u
 | .vec i,u,F=>F=[]/\ag w M κ (.vec i) u
 | .vref i s k o,u,F=>F=[]/\ag w M κ (.vref i s k o) u
 | .mp i,u,F=>F=[]/\ag w M κ (.mp i) u
def aj (w:World) (M:Nat->Prop) (κ:Nat->Value):List SV->List Value->List Nat->Prop
 |[],vs,F=>vs=[]/\F=[]
 |c::cs,vs,F=>∃ u us F1 F2,vs=u::us/\F=F1++F2/\ao w M κ c u F1/\aj w M κ cs us F2
end
mutual
theorem ao.ext {w w':World} {M M':Nat->Prop} {κ:Nat->Value} (h:gh w M w' M'):∀ (x:SV) (v:Value) (F:List Nat),(∀ b∈F,w'.heap[b]?=w.heap[b]?)->ao w M κ x v F->ao w' M' κ x v F
 | .own m d,v,F,hk,hr=>by unfold ao at *;exact dz.ext h m d v F hk hr
 | .agg cs,v,F,hk,hr=>by
  unfold ao at *
  obtain⟨vs,hv,h1,hl⟩:=hr
  exact⟨vs,hv,h1,aj.ext h cs vs F hk hl⟩
 | .tup cs,v,F,hk,hr=>by
  unfold ao at *
  obtain⟨vs,hv,hl⟩:=hr
  exact⟨vs,hv,aj.ext h cs vs F hk hl⟩
 | .d _,v,F,hk,hr=>by unfold ao at *;exact⟨hr.1,hr.2.ext h⟩
 | .nils,v,F,hk,hr=>by unfold ao at *;exact⟨hr.1,hr.2.ext h⟩
 | .lit _ _ _,v,F,hk,hr=>by unfold ao at *;exact⟨hr.1,hr.2.ext h⟩
 | .ref _ _,v,F,hk,hr=>by unfold ao at *;exact⟨hr.1,hr.2.ext h⟩
 | .vec _,v,F,hk,hr=>by unfold ao at *;exact⟨hr.1,hr.2.ext h⟩
 | .vref _ _ _ _,v,F,hk,hr=>by unfold ao at *;exact⟨hr.1,hr.2.ext h⟩
 | .mp _,v,F,hk,hr=>by unfold ao at *;exact⟨hr.1,hr.2.ext h⟩
theorem aj.ext {w w':World} {M M':Nat->Prop} {κ:Nat->Value} (h:gh w M w' M'):∀ (cs:List SV) (vs:List Value) (F:List Nat),(∀ b∈F,w'.heap[b]?=w.heap[b]?)->aj w M κ cs vs F->aj w' M' κ cs vs F
 |[],vs,F,_,hr=>by unfold aj at *;exact hr
 |c::cs,vs,F,hk,hr=>by
  unfold aj at *
  obtain⟨u,us,F1,F2,hv,rfl,h1,h2⟩:=hr
  exact⟨u,us,F1,F2,hv,rfl,ao.ext h c u F1 (fun b hb=>hk b (by simp[hb])) h1,aj.ext h cs us F2 (fun b hb=>hk b (by simp[hb])) h2⟩
end
mutual
theorem ao.of_S {w:World} {M:Nat->Prop} {κ:Nat->Value}:∀ (x:SV) (v:Value),ag w M κ x v->ao w M κ x v []
 | .own m d,v,hr=>by unfold ag at hr;exact hr.elim
 | .agg cs,v,hr=>by
  unfold ag at hr;unfold ao
  obtain⟨vs,hv,h1,hl⟩:=hr
  exact⟨vs,hv,h1,aj.of_S cs vs hl⟩
 | .tup cs,v,hr=>by
  unfold ag at hr;unfold ao
  obtain⟨vs,hv,hl⟩:=hr
  exact⟨vs,hv,aj.of_S cs vs hl⟩
 | .d _,v,hr=>by unfold ao;exact⟨rfl,hr⟩
 | .nils,v,hr=>by unfold ao;exact⟨rfl,hr⟩
 | .lit _ _ _,v,hr=>by unfold ao;exact⟨rfl,hr⟩
 | .ref _ _,v,hr=>by unfold ao;exact⟨rfl,hr⟩
 | .vec _,v,hr=>by unfold ao;exact⟨rfl,hr⟩
 | .vref _ _ _ _,v,hr=>by unfold ao;exact⟨rfl,hr⟩
 | .mp _,v,hr=>by unfold ao;exact⟨rfl,hr⟩
theorem aj.of_S {w:World} {M:Nat->Prop} {κ:Nat->Value}:∀ (cs:List SV) (vs:List Value),ai w M κ cs vs->aj w M κ cs vs []
 |[],vs,hr=>by unfold ai at hr;unfold aj;exact⟨hr,rfl⟩
 |c::cs,vs,hr=>by
  unfold ai at hr;unfold aj
  obtain⟨u,us,hv,h1,h2⟩:=hr
  exact⟨u,us,[],[],hv,rfl,ao.of_S c u h1,aj.of_S cs us h2⟩
end
mutual
def SV.noOwn:SV->Bool
 | .own _ _=>false
 | .agg cs=>SV.noOwns cs
 | .tup cs=>SV.noOwns cs
 | .d _=>true
 | .nils=>true
 | .lit _ _ _=>true
 | .ref _ _=>true
 | .vec _=>true
 | .vref _ _ _ _=>true
 | .mp _=>true
def SV.noOwns:List SV->Bool
 |[]=>true
 |c::cs=>SV.noOwn c&&SV.noOwns cs
end
mutual
theorem ao.to_S {w:World} {M:Nat->Prop} {κ:Nat->Value}:∀ (x:SV) (v:Value) (F:List Nat),x.noOwn=true->ao w M κ x v F->ag w M κ x v/\F=[]
 | .own m d,v,F,hn,hr=>by simp[SV.noOwn] at hn
 | .agg cs,v,F,hn,hr=>by
  unfold ao at hr
  unfold ag
  obtain⟨vs,hv,h1,hl⟩:=hr
  obtain⟨h2,h3⟩:=aj.to_S cs vs F (by simpa[SV.noOwn] using hn) hl
  exact⟨⟨vs,hv,h1,h2⟩,h3⟩
 | .tup cs,v,F,hn,hr=>by
  unfold ao at hr
  unfold ag
  obtain⟨vs,hv,hl⟩:=hr
  obtain⟨h2,h3⟩:=aj.to_S cs vs F (by simpa[SV.noOwn] using hn) hl
  exact⟨⟨vs,hv,h2⟩,h3⟩
 | .d _,v,F,hn,hr=>by unfold ao at hr;exact⟨hr.2,hr.1⟩
 | .nils,v,F,hn,hr=>by unfold ao at hr;exact⟨hr.2,hr.1⟩
 | .lit _ _ _,v,F,hn,hr=>by unfold ao at hr;exact⟨hr.2,hr.1⟩
 | .ref _ _,v,F,hn,hr=>by unfold ao at hr;exact⟨hr.2,hr.1⟩
 | .vec _,v,F,hn,hr=>by unfold ao at hr;exact⟨hr.2,hr.1⟩
 | .vref _ _ _ _,v,F,hn,hr=>by unfold ao at hr;exact⟨hr.2,hr.1⟩
 | .mp _,v,F,hn,hr=>by unfold ao at hr;exact⟨hr.2,hr.1⟩
theorem aj.to_S {w:World} {M:Nat->Prop} {κ:Nat->Value}:∀ (cs:List SV) (vs:List Value) (F:List Nat),SV.noOwns cs=true->aj w M κ cs vs F->ai w M κ cs vs/\F=[]
 |[],vs,F,hn,hr=>by unfold aj at hr;unfold ai;exact hr
 |c::cs,vs,F,hn,hr=>by
  unfold aj at hr;unfold ai
  obtain⟨u,us,F1,F2,hv,rfl,h1,h2⟩:=hr
  simp only[SV.noOwns,K1] at hn
  obtain⟨k1,rfl⟩:=ao.to_S c u F1 hn.1 h1
  obtain⟨k2,rfl⟩:=aj.to_S cs us F2 hn.2 h2
  exact⟨⟨u,us,hv,k1,k2⟩,rfl⟩
end
def H8 (κ:Nat->Value):Prop:=∀ id,(κ id).oneCell'=true
def bo (w:World) (M:Nat->Prop) (κ:Nat->Value) (kk:KK):List (DV×SV)->List MapEntry->List Nat->Prop
 |[],es,F=>es=[]/\F=[]
 |(k,c)::kv,es,F=>∃ e rest F1 F2,es=e::rest/\F=F1++F2/\kk.fits k=true/\fy k=some e.key/\ao w M κ c e.val F1/\bo w M κ kk kv rest F2
def gY (w:World) (M:Nat->Prop) (κ:Nat->Value) (id:Nat):Ch->List Nat->Prop
 | .dead,F=>F=[]
 | .box cs,F=>∃ b T vs G,κ id= .pointer (some ⟨b,0,none⟩)/\w.heap[b]?=some (.cells (List.toArray vs) T (0,0))/\(∀ x∈vs,x.oneCell'=true)/\aj w M κ cs vs G/\F=b::G
 | .vec e sz rows,F=>∃ xs G,w.ownsRow 0 e sz (κ id) rows.length xs/\(∀ x∈xs,x.oneCell'=true)/\(∀ r∈rows,r.length=sz)/\aj w M κ rows.flatten xs G/\F=ed (κ id)++G
 | .map kk kv,F=>∃ r es clock G,κ id= .map (some r)/\w.heap[r]?=some (.map (List.toArray es) clock)/\Bx es clock/\bo w M κ kk kv es G/\F=r::G
 | .bld T e bs,F=>tL w T e bs (κ id) F
def GW:List (Nat×IntKind×List Int):=[(4,.u8,[240,240,240,240,240,240,240,240,240,240,240,240,240,240,240,240,240,240,240,240,240,240,240,240,240,240,240,240,240,240,240,240,240,240,240,240,240,240,240,240,240,240,240,240,240,240,240,240,240,240,240,240,240,240,240,240,240,240,240,240,240,240,240,240,240,240,240,240,240,240,240,240,240,240,240,240,240,240,240,240,240,240,240,240,240,240,240,240,240,240,240,240,240,240,240,240,240,240,240,240,240,240,240,240,240,240,240,240,240,240,240,240,240,240,240,240,240,240,240,240,240,240,240,240,240,240,240,240,241,241,241,241,241,241,241,241,241,241,241,241,241,241,241,241,241,241,241,241,241,241,241,241,241,241,241,241,241,241,241,241,241,241,241,241,241,241,241,241,241,241,241,241,241,241,241,241,241,241,241,241,241,241,241,241,241,241,241,241,241,241,241,241,241,241,2,2,2,2,2,2,2,2,2,2,2,2,2,2,2,2,2,2,2,2,2,2,2,2,2,2,2,2,2,2,19,3,3,3,3,3,3,3,3,3,3,3,3,35,3,3,52,4,4,4,68,241,241,241,241,241,241,241,241,241,241,241]),(5,.u8,[128,191,160,191,128,159,144,191,128,143,0,0,0,0,0,0,0,0,0,0,0,0,0,0,0,0,0,0,0,0,0,0]),(0,.i64,[]),(3,.u64,(List.range 20).map fun i=>((10^i:Nat):Int))]
def mU (w:World) (t:Nat×IntKind×List Int):Prop:=
 (t.2.2=[]/\∃ m,w.cell? ⟨t.1,0,none⟩=some (.int t.2.1 m))\/(t.2.2≠[]/\∃ u f,w.heap[t.1]?=some (.cells (t.2.2.map fun z=>Value.int t.2.1 z).toArray u f))
theorem mU.at {w:World} {t:Nat×IntKind×List Int} (h:mU w t) (hn:t.2.2≠[]):∃ u f,w.heap[t.1]?=some (.cells (t.2.2.map fun z=>Value.int t.2.1 z).toArray u f):=by
 rcases h with⟨h,_⟩|⟨_,h⟩
 ·exact absurd h hn
 ·exact h
theorem mU.int {w:World} {t:Nat×IntKind×List Int} (h:mU w t) (hn:t.2.2=[]):∃ m,w.cell? ⟨t.1,0,none⟩=some (.int t.2.1 m):=by
 rcases h with⟨_,h⟩|⟨h,_⟩
 ·exact h
 ·exact absurd hn h
theorem mU.keep {w w':World} {t:Nat×IntKind×List Int} (h:mU w t) (hk:w'.heap[t.1]?=w.heap[t.1]?):mU w' t:=by
 rcases h with⟨h1,m,h2⟩|⟨h1,u,f,h2⟩
 ·refine .inl ⟨h1,m, ?_⟩
  unfold World.cell? at h2⊢
  simp only at h2⊢
  rw[hk];exact h2
 ·exact .inr ⟨h1,u,f,by rw[hk];exact h2⟩
def oF (w:World):Prop:=∀ t∈GW,mU w t
def Af (A:Nat->Prop):Prop:=∀ t∈GW,¬ A t.1
theorem mU.lt {w:World} {t:Nat×IntKind×List Int} (h:mU w t):t.1<w.heap.size:=by
 rcases h with⟨_,m,h⟩|⟨_,u,f,h⟩
 ·unfold World.cell? at h
  simp only at h
  by_cases hlt:t.1<w.heap.size
  ·exact hlt
  ·rw[Array.getElem?_eq_none oM] at h;cases h
 ·exact(Lo.1 h).1
theorem oF.below {w w':World} (h:oF w) (hb:Below w.heap.size w w'):oF w':=fun t ht=>(h t ht).keep (hb.block t.1 (h t ht).lt)
structure Cx where
 B:Nat
 w0:World
 M0:Nat->Prop
 A:Nat->Prop
 N:Nat
 gs:List Value
 good:oF w0
 free:Af A
 le:w0.heap.size<=B
structure sG (B:Nat) (A:Nat->Prop) (w w':World):Prop where
 os:w'.os=w.os
 tape:w'.tape=w.tape
 output:w'.output=w.output
 size:w.heap.size<=w'.heap.size
 block:∀ b,b<B->¬ A b->w'.heap[b]?=w.heap[b]?
theorem sG.refl (B:Nat) (A:Nat->Prop) (w:World):sG B A w w:=⟨rfl,rfl,rfl,K9 _,fun _ _ _=>rfl⟩
theorem sG.trans {B:Nat} {A:Nat->Prop} {w w' w'':World} (h:sG B A w w') (k:sG B A w' w''):sG B A w w'':=
 ⟨k.os.trans h.os,k.tape.trans h.tape,k.output.trans h.output,LO h.size k.size,fun b hb ha=>(k.block b hb ha).trans (h.block b hb ha)⟩
theorem sG.mono {B B':Nat} {A A':Nat->Prop} {w w':World} (h:sG B A w w') (hB:B'<=B) (hA:∀ b,b<B'->A b->A' b):sG B' A' w w':=
 ⟨h.os,h.tape,h.output,h.size,fun b hb ha=>h.block b oM fun h'=>ha (hA b hb h')⟩
theorem sG.of_below {B:Nat} {A:Nat->Prop} {w w':World} (h:Below B w w'):sG B A w w':=⟨h.os,h.tape,h.output,h.size,fun b hb _=>h.block b hb⟩
theorem sG.below {B:Nat} {A:Nat->Prop} {w w':World} (h:sG B A w w') (hA:∀ b,¬ A b):Below B w w':=⟨h.os,h.tape,h.output,h.size,fun b hb=>h.block b hb (hA b)⟩
def own (c:Cx) (φ:Nat->List Nat) (b:Nat):Prop:=c.M0 b\/∃ id,b∈φ id
structure b_ (c:Cx) (σ:St) (κ:Nat->Value) (φ:Nat->List Nat) (a:Act) (w:World):Prop where
 chg:sG c.B c.A c.w0 w
 size:c.B<=w.heap.size
 m0:∀ b,c.M0 b->b<c.B/\¬ c.A b
 ntmps:a.tmps.size=c.N
 defers:a.defers=[]
 kok:H8 κ
 slots:∀ i,i<c.N->ag w (own c φ) κ (σ.s i) (a.tmps.getD i undef)
 ghost:∀ i v,c.gs[i]?=some v->ag w (own c φ) κ (σ.s (c.N+i)) v
 chunks:∀ id,gY w (own c φ) κ id (σ.h id) (φ id)
 mine:∀ id b,b∈φ id->b<w.heap.size/\(c.B<=b\/c.A b)
 nod:∀ id,(φ id).Nodup
 sep:∀ i j b,i≠j->b∈φ i->b∈φ j->False
theorem b_.good {c:Cx} {σ:St} {κ:Nat->Value} {φ:Nat->List Nat} {a:Act} {w:World} (h:b_ c σ κ φ a w):oF w:=fun t ht=>
 (c.good t ht).keep (h.chg.block t.1 (Lz (c.good t ht).lt c.le) (c.free t ht))
theorem b_.free {c:Cx} {σ:St} {κ:Nat->Value} {φ:Nat->List Nat} {a:Act} {w:World} (h:b_ c σ κ φ a w) {id:Nat}:Af (· ∈φ id):=fun t ht hb=>by
 rcases(h.mine id t.1 hb).2 with h1|h1
 ·have:=Lz (c.good t ht).lt c.le;omega
 ·exact c.free t ht h1
theorem b_.own_lt {c:Cx} {σ:St} {κ:Nat->Value} {φ:Nat->List Nat} {a:Act} {w:World} (h:b_ c σ κ φ a w) {b:Nat} (hb:own c φ b):b<w.heap.size:=by
 rcases hb with hb|⟨id,hb⟩
 ·exact Lz (h.m0 b hb).1 h.size
 ·exact(h.mine id b hb).1
theorem bo.ext {w w':World} {M M':Nat->Prop} {κ:Nat->Value} {kk:KK} (h:gh w M w' M'):∀ (kv:List (DV×SV)) (es:List MapEntry) (F:List Nat),(∀ b∈F,w'.heap[b]?=w.heap[b]?)->bo w M κ kk kv es F->bo w' M' κ kk kv es F
 |[],es,F,_,hr=>by unfold bo at *;exact hr
 |(k,c)::kv,es,F,hk,hr=>by
  unfold bo at *
  obtain⟨e,rest,F1,F2,h1,rfl,h2,h3,h4,h5⟩:=hr
  exact⟨e,rest,F1,F2,h1,rfl,h2,h3,ao.ext h c _ F1 (fun b hb=>hk b (by simp[hb])) h4,bo.ext h kv rest F2 (fun b hb=>hk b (by simp[hb])) h5⟩
theorem gY.ext {w w':World} {M M':Nat->Prop} {κ:Nat->Value} {id:Nat} {c:Ch} {F:List Nat} (h:gh w M w' M') (hk:∀ b∈F,w'.heap[b]?=w.heap[b]?) (hc:gY w M κ id c F):gY w' M' κ id c F:=by
 cases c with
 |dead=>exact hc
 |box cs=>
  obtain⟨b,T,vs,G,h1,h2,h3,h4,rfl⟩:=hc
  exact⟨b,T,vs,G,h1,by rw[hk b oS];exact h2,h3,aj.ext h cs vs G (fun b hb=>hk b (by simp[hb])) h4,rfl⟩
 |vec e sz rows=>
  obtain⟨xs,G,h1,h2,h3,h4,rfl⟩:=hc
  exact⟨xs,G,oE (fun b hb=>hk b (by simp[hb])) h1,h2,h3,aj.ext h _ xs G (fun b hb=>hk b (by simp[hb])) h4,rfl⟩
 |map kk kv=>
  obtain⟨r,es,clock,G,h1,h2,hB,h3,rfl⟩:=hc
  exact⟨r,es,clock,G,h1,by rw[hk r oS];exact h2,hB,bo.ext h kv es G (fun b hb=>hk b (by simp[hb])) h3,rfl⟩
 |bld T e bs=>exact tL.ext hk hc
theorem gh.of_below {w w':World} {M:Nat->Prop} (h:Below w.heap.size w w'):gh w M w' M:=⟨h.size,fun b hb hm=>⟨h.block b hb,hm⟩⟩
theorem EE (t:Array Value) (d i:Nat) (v:Value):(t.setIfInBounds d v).getD i undef=if d=i/\d<t.size then v else t.getD i undef:=by
 by_cases h:d=i
 ·subst h
  by_cases hs:d<t.size<;>simp[hs]
 ·simp[h]
theorem b_.grown {c:Cx} {σ:St} {κ:Nat->Value} {φ:Nat->List Nat} {a:Act} {w w':World} (h:b_ c σ κ φ a w)
  (hb:Below w.heap.size w w'):b_ c σ κ φ a w':=by
 have hext:gh w (own c φ) w' (own c φ):=gh.of_below hb
 exact⟨h.chg.trans (sG.of_below (hb.mono h.size)),LO h.size hb.size,h.m0,h.ntmps,h.defers,h.kok,fun i hi=>ag.ext hext _ _ (h.slots i hi),fun i v hv=>ag.ext hext _ _ (h.ghost i v hv),
  fun id=>(h.chunks id).ext hext fun b hbk=>hb.block b (h.mine id b hbk).1,fun id b hb'=>⟨Lz (h.mine id b hb').1 hb.size,(h.mine id b hb').2⟩,h.nod,h.sep⟩
theorem b_.putS {c:Cx} {σ:St} {κ:Nat->Value} {φ:Nat->List Nat} {a:Act} {w:World} (h:b_ c σ κ φ a w) {dst:Nat} {x:SV} {v:Value} (hd':dst<c.N)
  (hx:ag w (own c φ) κ x v):b_ c {σ with s:=ak σ.s dst x} κ φ (a.put (some dst) v) w:=by
 refine⟨h.chg,h.size,h.m0,by simp[Act.put,h.ntmps],h.defers,h.kok,fun i hi=> ?_,fun i v hv=>by dsimp only;rw[aP _ _ _ _ oM];exact h.ghost i v hv,h.chunks,h.mine,h.nod,h.sep⟩
 simp only[Act.put,EE]
 by_cases hd:dst=i
 ·subst hd;simp[h.ntmps,hi,al,hx]
 ·simp only[hd,false_and,LI]
  rw[aP _ _ _ _ (fun e=>hd e.symm)]
  exact h.slots i hi
theorem b_.put {c:Cx} {σ:St} {κ:Nat->Value} {φ:Nat->List Nat} {a:Act} {w w':World} (h:b_ c σ κ φ a w) {dst:Nat} {x:SV} {v:Value} (hd':dst<c.N)
  (hb:Below w.heap.size w w') (hx:ag w' (own c φ) κ x v):b_ c {σ with s:=ak σ.s dst x} κ φ (a.put (some dst) v) w':=(h.grown hb).putS hd' hx
end Go.Proofs.YtgmnipfafmphaaaGreatDoor

