/-
  My text.
-/
import Derived.Test.YteaolfcegaidpaaGreatDoorSXEngA
namespace Go.Proofs.YteaolfcegaidpaaGreatDoor
set_option linter.unusedSimpArgs false
set_option linter.unusedVariables false
open Go.RowKit
inductive SV where
 |d (v:DV)
 |nils
 |lit (sz n:Nat) (cs:List SV)
 |agg (cs:List SV)
 |tup (cs:List SV)
 |ref (id off:Nat)
 |vec (id:Nat)
 |vref (id sz i off:Nat)
 |mp (id:Nat)
 |clo (f:FuncId) (ids:List Nat)
 |own (m:b8) (v:DV)
def fc {α:Type} (sz:Nat):Nat->List α->List (List α)
 |0,_=>[]
 |n+1,l=>l.take sz::fc sz n (l.drop sz)
theorem gz {α:Type} (sz:Nat):∀ (n:Nat) (l:List α),(fc sz n l).length=n
 |0,_=>rfl
 |n+1,l=>by simp[fc,gz sz n]
theorem ml {α:Type} (sz:Nat):∀ (n:Nat) (l:List α),l.length=n * sz->(fc sz n l).flatten=l
 |0,l,h=>by simp at h;subst h;rfl
 |n+1,l,h=>by
  rw[M4] at h
  simp only[fc,MJ]
  rw[ml sz n _ oT,MM]
theorem rF {α:Type} (sz:Nat):∀ (n:Nat) (l:List α),l.length=n * sz->∀ r∈fc sz n l,r.length=sz
 |0,l,_,r,hr=>by simp[fc] at hr
 |n+1,l,h,r,hr=>by
  rw[M4] at h
  simp only[fc,Ml] at hr
  rcases hr with rfl|hr
  ·simp;omega
  ·exact rF sz n _ oT r hr
mutual
def SV.toDV:SV->Option DV
 | .d v=>some v
 | .nils=>some (.slice [])
 | .lit sz n cs=>match SV.toDVs cs with|some xs=>some (.slice (fc sz n xs))|none=>none
 | .agg cs=>match SV.toDVs cs with|some xs=>some (.agg xs)|none=>none
 | .tup cs=>match SV.toDVs cs with|some xs=>some (.tup xs)|none=>none
 | .ref _ _=>none
 | .vec _=>none
 | .vref _ _ _ _=>none
 | .mp _=>none
 | .clo _ _=>none
 | .own _ _=>none
def SV.toDVs:List SV->Option (List DV)
 |[]=>some []
 |c::cs=>match SV.toDV c,SV.toDVs cs with|some x,some xs=>some (x::xs)|_,_=>none
end
inductive Ch where
 |dead
 |box (cells:List SV)
 |vec (e sz:Nat) (rows:List (List SV))
 |map (kk:KK) (kv:List (DV×SV))
 |bld (T e:Nat) (bs:List UInt8)
structure St where
 s:Nat->SV
 h:Nat->Ch
def ay {α:Type} (f:Nat->α) (i:Nat) (v:α):Nat->α:=fun j=>if j=i then v else f j
theorem al {α:Type} (f:Nat->α) (i:Nat) (v:α):ay f i v i=v:=by simp[ay]
theorem aS {α:Type} (f:Nat->α) (i j:Nat) (v:α) (h:j≠i):ay f i v j=f j:=by simp[ay,h]
mutual
def af (w:World) (M:Nat->Prop) (κ:Nat->Value):SV->Value->Prop
 | .d v,u=>aK w M v u
 | .nils,u=>u= .slice none 0 0
 | .lit sz n cs,u=>∃ b,∃ vs:List Value,u= .slice (some ⟨b,0,none⟩) n n/\¬ M b/\b<w.heap.size/\vs.length=n * sz/\(∀ x∈vs,x.oneCell'=true)/\(∀ j v,vs[j]?=some v->w.cell? ⟨b,j,none⟩=some v)/\aj w M κ cs vs
 | .agg cs,u=>∃ vs:List Value,u= .agg vs.toArray/\(∀ x∈vs,x.oneCell'=true)/\aj w M κ cs vs
 | .tup cs,u=>∃ vs:List Value,u= .tuple vs.toArray/\aj w M κ cs vs
 | .ref id off,u=>∃ b,κ id= .pointer (some ⟨b,0,none⟩)/\u= .pointer (some ⟨b,off,none⟩)
 | .vec id,u=>u=κ id
 | .vref id sz i off,u=>∃ b len cap,κ id= .slice (some ⟨b,0,none⟩) len cap/\u= .pointer (some ⟨b,i * sz+off,none⟩)
 | .mp id,u=>u=κ id
 | .clo f ids,u=>u= .func (.func f) #[] (ids.map κ).toArray/\∀ i∈ids,∃ b,κ i= .pointer (some ⟨b,0,none⟩)
 | .own _ _,_=>False
def aj (w:World) (M:Nat->Prop) (κ:Nat->Value):List SV->List Value->Prop
 |[],vs=>vs=[]
 |c::cs,vs=>∃ u us,vs=u::us/\af w M κ c u/\aj w M κ cs us
end
mutual
theorem af.ext {w w':World} {M M':Nat->Prop} {κ:Nat->Value} (h:kN w M w' M'):∀ (x:SV) (v:Value),af w M κ x v->af w' M' κ x v
 | .d x,v,hr=>by unfold af at *;exact hr.ext h
 | .nils,v,hr=>by unfold af at *;exact hr
 | .lit sz n cs,v,hr=>by
  unfold af at *
  obtain⟨b,vs,h1,h2,h3,h4,h5,h6,h7⟩:=hr
  exact⟨b,vs,h1,(h.keep b h3 h2).2,Mx h3 h.size,h4,h5,fun j v hj=>by rw[h.cell h3 h2];exact h6 j v hj,aj.ext h cs vs h7⟩
 | .agg cs,v,hr=>by
  unfold af at *
  obtain⟨vs,hv,h1,hl⟩:=hr
  exact⟨vs,hv,h1,aj.ext h cs vs hl⟩
 | .tup cs,v,hr=>by
  unfold af at *
  obtain⟨vs,hv,hl⟩:=hr
  exact⟨vs,hv,aj.ext h cs vs hl⟩
 | .ref _ _,v,hr=>by unfold af at *;exact hr
 | .vec _,v,hr=>by unfold af at *;exact hr
 | .vref _ _ _ _,v,hr=>by unfold af at *;exact hr
 | .mp _,v,hr=>by unfold af at *;exact hr
 | .clo _ _,v,hr=>by unfold af at *;exact hr
 | .own _ _,v,hr=>by unfold af at *;exact hr
theorem aj.ext {w w':World} {M M':Nat->Prop} {κ:Nat->Value} (h:kN w M w' M'):∀ (cs:List SV) (vs:List Value),aj w M κ cs vs->aj w' M' κ cs vs
 |[],vs,hr=>by unfold aj at *;exact hr
 |c::cs,vs,hr=>by
  unfold aj at *
  obtain⟨u,us,hv,h1,h2⟩:=hr
  exact⟨u,us,hv,af.ext h c u h1,aj.ext h cs us h2⟩
end
theorem bq.of_cells {w:World} {M:Nat->Prop}:∀ {cs:List DV} {vs:List Value} {b o:Nat},aB w M cs vs->(∀ x∈vs,x.oneCell'=true)->(∀ j v,vs[j]?=some v->w.cell? ⟨b,o+j,none⟩=some v)->bq w M cs b o
 |[],vs,b,o,_,_,_=>by unfold bq;trivial
 |c::cs,vs,b,o,h,h1,h2=>by
  unfold aB at h
  obtain⟨u,us,rfl,h3,h4⟩:=h
  unfold bq
  exact⟨⟨u,by simpa using h2 0 u oS,h1 u oS,h3⟩,bq.of_cells h4 (fun x hx=>h1 x (by simp[hx])) fun j v hj=>by
   have:=h2 (j+1) v (by simpa using hj)
   rwa[show o+(j+1)=o+1+j by omega] at this⟩
theorem aB.len {w:World} {M:Nat->Prop}:∀ {cs:List DV} {vs:List Value},aB w M cs vs->vs.length=cs.length
 |[],vs,h=>by unfold aB at h;simp[h]
 |c::cs,vs,h=>by unfold aB at h;obtain⟨u,us,rfl,_,h2⟩:=h;simp[aB.len h2]
theorem aB.cut {w:World} {M:Nat->Prop}:∀ {cs:List DV} {vs:List Value} (n:Nat),aB w M cs vs->aB w M (cs.take n) (vs.take n)/\aB w M (cs.drop n) (vs.drop n)
 |cs,vs,0,h=>by simpa[aB] using h
 |[],vs,n+1,h=>by unfold aB at h;subst h;simp[aB]
 |c::cs,vs,n+1,h=>by
  unfold aB at h
  obtain⟨u,us,rfl,h1,h2⟩:=h
  obtain⟨h3,h4⟩:=aB.cut n h2
  simp only[NJ,List.drop_succ_cons]
  refine⟨?_,h4⟩
  unfold aB
  exact⟨u,_,rfl,h1,h3⟩
theorem aL.of_cells {w:World} {M:Nat->Prop} {sz:Nat}:∀ {n:Nat} {xs:List DV} {vs:List Value} {b o:Nat},aB w M xs vs->(∀ x∈vs,x.oneCell'=true)->(∀ j v,vs[j]?=some v->w.cell? ⟨b,o+j,none⟩=some v)->xs.length=n * sz->aL w M (fc sz n xs) b o sz
 |0,xs,vs,b,o,_,_,_,_=>by unfold fc aL;trivial
 |n+1,xs,vs,b,o,h,h1,h2,hl=>by
  rw[M4] at hl
  obtain⟨h3,h4⟩:=h.cut sz
  unfold fc aL
  refine⟨by simp;omega,bq.of_cells h3 (fun x hx=>h1 x (MC hx)) fun j v hj=>h2 j v ?_,aL.of_cells h4 (fun x hx=>h1 x (MU hx)) (fun j v hj=> ?_) oT⟩
  ·rw[Nc] at hj;split at hj
   ·exact hj
   ·cases hj
  ·rw[M8] at hj
   have:=h2 _ v hj
   rwa[show o+(sz+j)=o+sz+j by omega] at this
mutual
theorem af.toDV {w:World} {M:Nat->Prop} {κ:Nat->Value}:∀ (x:SV) (v:Value) (d:DV),af w M κ x v->x.toDV=some d->aK w M d v
 | .d x,v,d,hr,hd=>by
  simp only[SV.toDV,L7] at hd
  subst hd;unfold af at hr;exact hr
 | .nils,v,d,hr,hd=>by
  simp only[SV.toDV,L7] at hd
  subst hd;unfold af at hr;subst hr;unfold aK
  exact⟨none,0,rfl,Me _,fun _=>rfl,.inl rfl⟩
 | .lit sz n cs,v,d,hr,hd=>by
  unfold SV.toDV at hd
  unfold af at hr
  obtain⟨b,vs,h1,h2,h3,h4,h5,h6,h7⟩:=hr
  cases hc:SV.toDVs cs with
  |none=>simp[hc] at hd
  |some xs=>
   simp only[hc,L7] at hd
   subst hd
   have hl:=aj.toDVs cs vs xs h7 hc
   unfold aK
   refine⟨some ⟨b,0,none⟩,n,by rw[gz];exact h1,by rw[gz];exact Me _,by simp,.inr ⟨b,0,sz,rfl,h2,h3, ?_⟩⟩
   exact aL.of_cells hl h5 (fun j v hj=>by rw[M7];exact h6 j v hj) (by rw[<-hl.len];exact h4)
 | .agg cs,v,d,hr,hd=>by
  unfold SV.toDV at hd
  unfold af at hr
  obtain⟨vs,hv,h1,hl⟩:=hr
  cases hc:SV.toDVs cs with
  |none=>simp[hc] at hd
  |some xs=>
   simp only[hc,L7] at hd
   subst hd
   unfold aK
   exact⟨vs,hv,h1,aj.toDVs cs vs xs hl hc⟩
 | .tup cs,v,d,hr,hd=>by
  unfold SV.toDV at hd
  unfold af at hr
  obtain⟨vs,hv,hl⟩:=hr
  cases hc:SV.toDVs cs with
  |none=>simp[hc] at hd
  |some xs=>
   simp only[hc,L7] at hd
   subst hd
   unfold aK
   exact⟨vs,hv,aj.toDVs cs vs xs hl hc⟩
 | .ref _ _,v,d,hr,hd=>by simp[SV.toDV] at hd
 | .vec _,v,d,hr,hd=>by simp[SV.toDV] at hd
 | .vref _ _ _ _,v,d,hr,hd=>by simp[SV.toDV] at hd
 | .mp _,v,d,hr,hd=>by simp[SV.toDV] at hd
 | .clo _ _,v,d,hr,hd=>by simp[SV.toDV] at hd
 | .own _ _,v,d,hr,hd=>by simp[SV.toDV] at hd
theorem aj.toDVs {w:World} {M:Nat->Prop} {κ:Nat->Value}:∀ (cs:List SV) (vs:List Value) (ds:List DV),aj w M κ cs vs->SV.toDVs cs=some ds->aB w M ds vs
 |[],vs,ds,hr,hd=>by
  simp only[SV.toDVs,L7] at hd
  subst hd;unfold aj at hr;unfold aB;exact hr
 |c::cs,vs,ds,hr,hd=>by
  unfold SV.toDVs at hd
  unfold aj at hr
  obtain⟨u,us,hv,h1,h2⟩:=hr
  cases hc:SV.toDV c with
  |none=>simp[hc] at hd
  |some x=>
   cases hcs:SV.toDVs cs with
   |none=>simp[hc,hcs] at hd
   |some xs=>
    simp only[hc,hcs,L7] at hd
    subst hd
    unfold aB
    exact⟨u,us,hv,af.toDV c u x h1 hc,aj.toDVs cs us xs h2 hcs⟩
end
mutual
def aQ (w:World) (M:Nat->Prop) (κ:Nat->Value):SV->Value->List Nat->Prop
 | .own m d,u,F=>fA w M m d u F
 | .agg cs,u,F=>∃ vs:List Value,u= .agg vs.toArray/\(∀ x∈vs,x.oneCell'=true)/\ao w M κ cs vs F
 | .tup cs,u,F=>∃ vs:List Value,u= .tuple vs.toArray/\ao w M κ cs vs F
 | .d x,u,F=>F=[]/\af w M κ (.d x) u
 | .nils,u,F=>F=[]/\af w M κ .nils u
 | .lit sz n cs,u,F=>F=[]/\af w M κ (.lit sz n cs) u
 | .ref i o,u,F=>F=[]/\af w M κ (.ref i o) u
 | .vec i,u,F=>F=[]/\af w M κ (.vec i) u
 | .vref i s k o,u,F=>F=[]/\af w M κ (.vref i s k o) u
 | .mp i,u,F=>F=[]/\af w M κ (.mp i) u
 | .clo f i,u,F=>F=[]/\af w M κ (.clo f i) u
def ao (w:World) (M:Nat->Prop) (κ:Nat->Value):List SV->List Value->List Nat->Prop
 |[],vs,F=>vs=[]/\F=[]
 |c::cs,vs,F=>∃ u us F1 F2,vs=u::us/\F=F1++F2/\aQ w M κ c u F1/\ao w M κ cs us F2
end
mutual
theorem aQ.ext {w w':World} {M M':Nat->Prop} {κ:Nat->Value} (h:kN w M w' M'):∀ (x:SV) (v:Value) (F:List Nat),(∀ b∈F,w'.heap[b]?=w.heap[b]?)->aQ w M κ x v F->aQ w' M' κ x v F
 | .own m d,v,F,hk,hr=>by unfold aQ at *;exact fA.ext h m d v F hk hr
 | .agg cs,v,F,hk,hr=>by
  unfold aQ at *
  obtain⟨vs,hv,h1,hl⟩:=hr
  exact⟨vs,hv,h1,ao.ext h cs vs F hk hl⟩
 | .tup cs,v,F,hk,hr=>by
  unfold aQ at *
  obtain⟨vs,hv,hl⟩:=hr
  exact⟨vs,hv,ao.ext h cs vs F hk hl⟩
 | .d _,v,F,hk,hr=>by unfold aQ at *;exact⟨hr.1,hr.2.ext h⟩
 | .nils,v,F,hk,hr=>by unfold aQ at *;exact⟨hr.1,hr.2.ext h⟩
 | .lit _ _ _,v,F,hk,hr=>by unfold aQ at *;exact⟨hr.1,hr.2.ext h⟩
 | .ref _ _,v,F,hk,hr=>by unfold aQ at *;exact⟨hr.1,hr.2.ext h⟩
 | .vec _,v,F,hk,hr=>by unfold aQ at *;exact⟨hr.1,hr.2.ext h⟩
 | .vref _ _ _ _,v,F,hk,hr=>by unfold aQ at *;exact⟨hr.1,hr.2.ext h⟩
 | .mp _,v,F,hk,hr=>by unfold aQ at *;exact⟨hr.1,hr.2.ext h⟩
 | .clo _ _,v,F,hk,hr=>by unfold aQ at *;exact⟨hr.1,hr.2.ext h⟩
theorem ao.ext {w w':World} {M M':Nat->Prop} {κ:Nat->Value} (h:kN w M w' M'):∀ (cs:List SV) (vs:List Value) (F:List Nat),(∀ b∈F,w'.heap[b]?=w.heap[b]?)->ao w M κ cs vs F->ao w' M' κ cs vs F
 |[],vs,F,_,hr=>by unfold ao at *;exact hr
 |c::cs,vs,F,hk,hr=>by
  unfold ao at *
  obtain⟨u,us,F1,F2,hv,rfl,h1,h2⟩:=hr
  exact⟨u,us,F1,F2,hv,rfl,aQ.ext h c u F1 (fun b hb=>hk b (by simp[hb])) h1,ao.ext h cs us F2 (fun b hb=>hk b (by simp[hb])) h2⟩
end
mutual
theorem aQ.of_S {w:World} {M:Nat->Prop} {κ:Nat->Value}:∀ (x:SV) (v:Value),af w M κ x v->aQ w M κ x v []
 | .own m d,v,hr=>by unfold af at hr;exact hr.elim
 | .agg cs,v,hr=>by
  unfold af at hr;unfold aQ
  obtain⟨vs,hv,h1,hl⟩:=hr
  exact⟨vs,hv,h1,ao.of_S cs vs hl⟩
 | .tup cs,v,hr=>by
  unfold af at hr;unfold aQ
  obtain⟨vs,hv,hl⟩:=hr
  exact⟨vs,hv,ao.of_S cs vs hl⟩
 | .d _,v,hr=>by unfold aQ;exact⟨rfl,hr⟩
 | .nils,v,hr=>by unfold aQ;exact⟨rfl,hr⟩
 | .lit _ _ _,v,hr=>by unfold aQ;exact⟨rfl,hr⟩
 | .ref _ _,v,hr=>by unfold aQ;exact⟨rfl,hr⟩
 | .vec _,v,hr=>by unfold aQ;exact⟨rfl,hr⟩
 | .vref _ _ _ _,v,hr=>by unfold aQ;exact⟨rfl,hr⟩
 | .mp _,v,hr=>by unfold aQ;exact⟨rfl,hr⟩
 | .clo _ _,v,hr=>by unfold aQ;exact⟨rfl,hr⟩
theorem ao.of_S {w:World} {M:Nat->Prop} {κ:Nat->Value}:∀ (cs:List SV) (vs:List Value),aj w M κ cs vs->ao w M κ cs vs []
 |[],vs,hr=>by unfold aj at hr;unfold ao;exact⟨hr,rfl⟩
 |c::cs,vs,hr=>by
  unfold aj at hr;unfold ao
  obtain⟨u,us,hv,h1,h2⟩:=hr
  exact⟨u,us,[],[],hv,rfl,aQ.of_S c u h1,ao.of_S cs us h2⟩
end
mutual
def SV.noOwn:SV->Bool
 | .own _ _=>false
 | .agg cs=>SV.noOwns cs
 | .tup cs=>SV.noOwns cs
 | .d _=>true
 | .nils=>true
 | .lit _ _ _=>true
 | .ref _ _=>true
 | .vec _=>true
 | .vref _ _ _ _=>true
 | .mp _=>true
 | .clo _ _=>true
def SV.noOwns:List SV->Bool
 |[]=>true
 |c::cs=>SV.noOwn c&&SV.noOwns cs
end
mutual
theorem aQ.to_S {w:World} {M:Nat->Prop} {κ:Nat->Value}:∀ (x:SV) (v:Value) (F:List Nat),x.noOwn=true->aQ w M κ x v F->af w M κ x v/\F=[]
 | .own m d,v,F,hn,hr=>by simp[SV.noOwn] at hn
 | .agg cs,v,F,hn,hr=>by
  unfold aQ at hr
  unfold af
  obtain⟨vs,hv,h1,hl⟩:=hr
  obtain⟨h2,h3⟩:=ao.to_S cs vs F (by simpa[SV.noOwn] using hn) hl
  exact⟨⟨vs,hv,h1,h2⟩,h3⟩
 | .tup cs,v,F,hn,hr=>by
  unfold aQ at hr
  unfold af
  obtain⟨vs,hv,hl⟩:=hr
  obtain⟨h2,h3⟩:=ao.to_S cs vs F (by simpa[SV.noOwn] using hn) hl
  exact⟨⟨vs,hv,h2⟩,h3⟩
 | .d _,v,F,hn,hr=>by unfold aQ at hr;exact⟨hr.2,hr.1⟩
 | .nils,v,F,hn,hr=>by unfold aQ at hr;exact⟨hr.2,hr.1⟩
 | .lit _ _ _,v,F,hn,hr=>by unfold aQ at hr;exact⟨hr.2,hr.1⟩
 | .ref _ _,v,F,hn,hr=>by unfold aQ at hr;exact⟨hr.2,hr.1⟩
 | .vec _,v,F,hn,hr=>by unfold aQ at hr;exact⟨hr.2,hr.1⟩
 | .vref _ _ _ _,v,F,hn,hr=>by unfold aQ at hr;exact⟨hr.2,hr.1⟩
 | .mp _,v,F,hn,hr=>by unfold aQ at hr;exact⟨hr.2,hr.1⟩
 | .clo _ _,v,F,hn,hr=>by unfold aQ at hr;exact⟨hr.2,hr.1⟩
theorem ao.to_S {w:World} {M:Nat->Prop} {κ:Nat->Value}:∀ (cs:List SV) (vs:List Value) (F:List Nat),SV.noOwns cs=true->ao w M κ cs vs F->aj w M κ cs vs/\F=[]
 |[],vs,F,hn,hr=>by unfold ao at hr;unfold aj;exact hr
 |c::cs,vs,F,hn,hr=>by
  unfold ao at hr;unfold aj
  obtain⟨u,us,F1,F2,hv,rfl,h1,h2⟩:=hr
  simp only[SV.noOwns,L9] at hn
  obtain⟨k1,rfl⟩:=aQ.to_S c u F1 hn.1 h1
  obtain⟨k2,rfl⟩:=ao.to_S cs us F2 hn.2 h2
  exact⟨⟨u,us,hv,k1,k2⟩,rfl⟩
end
def JJ (κ:Nat->Value):Prop:=∀ id,(κ id).oneCell'=true
def bn (w:World) (M:Nat->Prop) (κ:Nat->Value) (kk:KK):List (DV×SV)->List MapEntry->List Nat->Prop
 |[],es,F=>es=[]/\F=[]
 |(k,c)::kv,es,F=>∃ e rest F1 F2,es=e::rest/\F=F1++F2/\kk.fits k=true/\cH k=some e.key/\aQ w M κ c e.val F1/\bn w M κ kk kv rest F2
def j7 (w:World) (M:Nat->Prop) (κ:Nat->Value) (id:Nat):Ch->List Nat->Prop
 | .dead,F=>F=[]
 | .box cs,F=>∃ b T vs G,κ id= .pointer (some ⟨b,0,none⟩)/\w.heap[b]?=some (.cells (List.toArray vs) T (0,0))/\(∀ x∈vs,x.oneCell'=true)/\ao w M κ cs vs G/\F=b::G
 | .vec e sz rows,F=>∃ xs G,w.ownsRow 0 e sz (κ id) rows.length xs/\(∀ x∈xs,x.oneCell'=true)/\(∀ r∈rows,r.length=sz)/\ao w M κ rows.flatten xs G/\F=jy (κ id)++G
 | .map kk kv,F=>∃ r es clock G,κ id= .map (some r)/\w.heap[r]?=some (.map (List.toArray es) clock)/\B0 es clock/\bn w M κ kk kv es G/\F=r::G
 | .bld T e bs,F=>yb w T e bs (κ id) F
def G6:List (Nat×IntKind×List Int):=[(5,.u64,(List.range 20).map fun i=>((10^i:Nat):Int)),(0,.i64,[])]
def te (w:World) (t:Nat×IntKind×List Int):Prop:=
 (t.2.2=[]/\∃ m,w.cell? ⟨t.1,0,none⟩=some (.int t.2.1 m))\/(t.2.2≠[]/\∃ u f,w.heap[t.1]?=some (.cells (t.2.2.map fun z=>Value.int t.2.1 z).toArray u f))
theorem te.int {w:World} {t:Nat×IntKind×List Int} (h:te w t) (hn:t.2.2=[]):∃ m,w.cell? ⟨t.1,0,none⟩=some (.int t.2.1 m):=by
 rcases h with⟨_,h⟩|⟨h,_⟩
 ·exact h
 ·exact absurd hn h
theorem te.keep {w w':World} {t:Nat×IntKind×List Int} (h:te w t) (hk:w'.heap[t.1]?=w.heap[t.1]?):te w' t:=by
 rcases h with⟨h1,m,h2⟩|⟨h1,u,f,h2⟩
 ·refine .inl ⟨h1,m, ?_⟩
  unfold World.cell? at h2⊢
  simp only at h2⊢
  rw[hk];exact h2
 ·exact .inr ⟨h1,u,f,by rw[hk];exact h2⟩
def vz (w:World):Prop:=∀ t∈G6,te w t
def CW (A:Nat->Prop):Prop:=∀ t∈G6,¬ A t.1
theorem te.lt {w:World} {t:Nat×IntKind×List Int} (h:te w t):t.1<w.heap.size:=by
 rcases h with⟨_,m,h⟩|⟨_,u,f,h⟩
 ·unfold World.cell? at h
  simp only at h
  by_cases hlt:t.1<w.heap.size
  ·exact hlt
  ·rw[Array.getElem?_eq_none oM] at h;cases h
 ·exact(MY.1 h).1
theorem vz.below {w w':World} (h:vz w) (hb:Below w.heap.size w w'):vz w':=fun t ht=>(h t ht).keep (hb.block t.1 (h t ht).lt)
structure Cx where
 B:Nat
 w0:World
 M0:Nat->Prop
 A:Nat->Prop
 N:Nat
 gs:List Value
 good:vz w0
 free:CW A
 le:w0.heap.size<=B
structure xl (B:Nat) (A:Nat->Prop) (w w':World):Prop where
 os:w'.os=w.os
 tape:w'.tape=w.tape
 output:w'.output=w.output
 size:w.heap.size<=w'.heap.size
 block:∀ b,b<B->¬ A b->w'.heap[b]?=w.heap[b]?
theorem xl.refl (B:Nat) (A:Nat->Prop) (w:World):xl B A w w:=⟨rfl,rfl,rfl,Me _,fun _ _ _=>rfl⟩
theorem xl.trans {B:Nat} {A:Nat->Prop} {w w' w'':World} (h:xl B A w w') (k:xl B A w' w''):xl B A w w'':=
 ⟨k.os.trans h.os,k.tape.trans h.tape,k.output.trans h.output,M5 h.size k.size,fun b hb ha=>(k.block b hb ha).trans (h.block b hb ha)⟩
theorem xl.mono {B B':Nat} {A A':Nat->Prop} {w w':World} (h:xl B A w w') (hB:B'<=B) (hA:∀ b,b<B'->A b->A' b):xl B' A' w w':=
 ⟨h.os,h.tape,h.output,h.size,fun b hb ha=>h.block b oM fun h'=>ha (hA b hb h')⟩
theorem xl.of_below {B:Nat} {A:Nat->Prop} {w w':World} (h:Below B w w'):xl B A w w':=⟨h.os,h.tape,h.output,h.size,fun b hb _=>h.block b hb⟩
theorem xl.below {B:Nat} {A:Nat->Prop} {w w':World} (h:xl B A w w') (hA:∀ b,¬ A b):Below B w w':=⟨h.os,h.tape,h.output,h.size,fun b hb=>h.block b hb (hA b)⟩
def own (c:Cx) (φ:Nat->List Nat) (b:Nat):Prop:=c.M0 b\/∃ id,b∈φ id
structure ce (c:Cx) (σ:St) (κ:Nat->Value) (φ:Nat->List Nat) (a:Act) (w:World):Prop where
 chg:xl c.B c.A c.w0 w
 size:c.B<=w.heap.size
 m0:∀ b,c.M0 b->b<c.B/\¬ c.A b
 ntmps:a.tmps.size=c.N
 defers:a.defers=[]
 kok:JJ κ
 slots:∀ i,i<c.N->af w (own c φ) κ (σ.s i) (a.tmps.getD i undef)
 ghost:∀ i v,c.gs[i]?=some v->af w (own c φ) κ (σ.s (c.N+i)) v
 chunks:∀ id,j7 w (own c φ) κ id (σ.h id) (φ id)
 mine:∀ id b,b∈φ id->b<w.heap.size/\(c.B<=b\/c.A b)
 nod:∀ id,(φ id).Nodup
 sep:∀ i j b,i≠j->b∈φ i->b∈φ j->False
theorem ce.good {c:Cx} {σ:St} {κ:Nat->Value} {φ:Nat->List Nat} {a:Act} {w:World} (h:ce c σ κ φ a w):vz w:=fun t ht=>
 (c.good t ht).keep (h.chg.block t.1 (Mx (c.good t ht).lt c.le) (c.free t ht))
theorem ce.free {c:Cx} {σ:St} {κ:Nat->Value} {φ:Nat->List Nat} {a:Act} {w:World} (h:ce c σ κ φ a w) {id:Nat}:CW (· ∈φ id):=fun t ht hb=>by
 rcases(h.mine id t.1 hb).2 with h1|h1
 ·have:=Mx (c.good t ht).lt c.le;omega
 ·exact c.free t ht h1
theorem ce.own_lt {c:Cx} {σ:St} {κ:Nat->Value} {φ:Nat->List Nat} {a:Act} {w:World} (h:ce c σ κ φ a w) {b:Nat} (hb:own c φ b):b<w.heap.size:=by
 rcases hb with hb|⟨id,hb⟩
 ·exact Mx (h.m0 b hb).1 h.size
 ·exact(h.mine id b hb).1
theorem bn.ext {w w':World} {M M':Nat->Prop} {κ:Nat->Value} {kk:KK} (h:kN w M w' M'):∀ (kv:List (DV×SV)) (es:List MapEntry) (F:List Nat),(∀ b∈F,w'.heap[b]?=w.heap[b]?)->bn w M κ kk kv es F->bn w' M' κ kk kv es F
 |[],es,F,_,hr=>by unfold bn at *;exact hr
 |(k,c)::kv,es,F,hk,hr=>by
  unfold bn at *
  obtain⟨e,rest,F1,F2,h1,rfl,h2,h3,h4,h5⟩:=hr
  exact⟨e,rest,F1,F2,h1,rfl,h2,h3,aQ.ext h c _ F1 (fun b hb=>hk b (by simp[hb])) h4,bn.ext h kv rest F2 (fun b hb=>hk b (by simp[hb])) h5⟩
theorem j7.ext {w w':World} {M M':Nat->Prop} {κ:Nat->Value} {id:Nat} {c:Ch} {F:List Nat} (h:kN w M w' M') (hk:∀ b∈F,w'.heap[b]?=w.heap[b]?) (hc:j7 w M κ id c F):j7 w' M' κ id c F:=by
 cases c with
 |dead=>exact hc
 |box cs=>
  obtain⟨b,T,vs,G,h1,h2,h3,h4,rfl⟩:=hc
  exact⟨b,T,vs,G,h1,by rw[hk b oS];exact h2,h3,ao.ext h cs vs G (fun b hb=>hk b (by simp[hb])) h4,rfl⟩
 |vec e sz rows=>
  obtain⟨xs,G,h1,h2,h3,h4,rfl⟩:=hc
  exact⟨xs,G,tc (fun b hb=>hk b (by simp[hb])) h1,h2,h3,ao.ext h _ xs G (fun b hb=>hk b (by simp[hb])) h4,rfl⟩
 |map kk kv=>
  obtain⟨r,es,clock,G,h1,h2,hB,h3,rfl⟩:=hc
  exact⟨r,es,clock,G,h1,by rw[hk r oS];exact h2,hB,bn.ext h kv es G (fun b hb=>hk b (by simp[hb])) h3,rfl⟩
 |bld T e bs=>exact yb.ext hk hc
theorem kN.of_below {w w':World} {M:Nat->Prop} (h:Below w.heap.size w w'):kN w M w' M:=⟨h.size,fun b hb hm=>⟨h.block b hb,hm⟩⟩
theorem px (t:Array Value) (d i:Nat) (v:Value):(t.setIfInBounds d v).getD i undef=if d=i/\d<t.size then v else t.getD i undef:=by
 by_cases h:d=i
 ·subst h
  by_cases hs:d<t.size<;>simp[hs]
 ·simp[h]
theorem ce.grown {c:Cx} {σ:St} {κ:Nat->Value} {φ:Nat->List Nat} {a:Act} {w w':World} (h:ce c σ κ φ a w)
  (hb:Below w.heap.size w w'):ce c σ κ φ a w':=by
 have hext:kN w (own c φ) w' (own c φ):=kN.of_below hb
 exact⟨h.chg.trans (xl.of_below (hb.mono h.size)),M5 h.size hb.size,h.m0,h.ntmps,h.defers,h.kok,fun i hi=>af.ext hext _ _ (h.slots i hi),fun i v hv=>af.ext hext _ _ (h.ghost i v hv),
  fun id=>(h.chunks id).ext hext fun b hbk=>hb.block b (h.mine id b hbk).1,fun id b hb'=>⟨Mx (h.mine id b hb').1 hb.size,(h.mine id b hb').2⟩,h.nod,h.sep⟩
theorem ce.putS {c:Cx} {σ:St} {κ:Nat->Value} {φ:Nat->List Nat} {a:Act} {w:World} (h:ce c σ κ φ a w) {dst:Nat} {x:SV} {v:Value} (hd':dst<c.N)
  (hx:af w (own c φ) κ x v):ce c {σ with s:=ay σ.s dst x} κ φ (a.put (some dst) v) w:=by
 refine⟨h.chg,h.size,h.m0,by simp[Act.put,h.ntmps],h.defers,h.kok,fun i hi=> ?_,fun i v hv=>by dsimp only;rw[aS _ _ _ _ oM];exact h.ghost i v hv,h.chunks,h.mine,h.nod,h.sep⟩
 simp only[Act.put,px]
 by_cases hd:dst=i
 ·subst hd;simp[h.ntmps,hi,al,hx]
 ·simp only[hd,false_and,MZ]
  rw[aS _ _ _ _ (fun e=>hd e.symm)]
  exact h.slots i hi
theorem ce.put {c:Cx} {σ:St} {κ:Nat->Value} {φ:Nat->List Nat} {a:Act} {w w':World} (h:ce c σ κ φ a w) {dst:Nat} {x:SV} {v:Value} (hd':dst<c.N)
  (hb:Below w.heap.size w w') (hx:af w' (own c φ) κ x v):ce c {σ with s:=ay σ.s dst x} κ φ (a.put (some dst) v) w':=(h.grown hb).putS hd' hx
