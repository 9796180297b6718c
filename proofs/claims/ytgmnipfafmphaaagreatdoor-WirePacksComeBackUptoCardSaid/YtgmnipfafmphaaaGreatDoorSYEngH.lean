/-
  My text.
-/
import Derived.Test.YtgmnipfafmphaaaGreatDoorSYEngG
namespace Go.Proofs.YtgmnipfafmphaaaGreatDoor
set_option linter.unusedSimpArgs false
set_option linter.unusedVariables false
open Go.RowKit
variable {F:List Nat} {J:List (List DV)} {L:List Nat} {M M':Nat->Prop} {ch:Ch} {e id:Nat} {o:DV} {rows:List (List SV)} {sz:Nat} {u v:Value} {w':World}
mutual
def c8 (id:Nat) (o:DV):SV->SV
 | .d v=> .d v
 | .nils=> .nils
 | .lit sz n cs=> .lit sz n (cm id o cs)
 | .agg cs=> .agg (cm id o cs)
 | .tup cs=> .tup (cm id o cs)
 | .ref i off=>if i=id then .d .any else .ref i off
 | .vec i=>if i=id then .d o else .vec i
 | .vref i sz k off=>if i=id then .d .any else .vref i sz k off
 | .mp i=>if i=id then .d .any else .mp i
 | .own m v=> .own m v
def cm (id:Nat) (o:DV):List SV->List SV
 |[]=>[]
 |c::cs=>c8 id o c::cm id o cs
end
def c0 (id:Nat) (o:DV):List (List SV)->List (List SV)
 |[]=>[]
 |r::rs=>cm id o r::c0 id o rs
def sD (id:Nat) (o:DV):List (DV×SV)->List (DV×SV)
 |[]=>[]
 |(k,c)::kv=>(k,c8 id o c)::sD id o kv
def jY (id:Nat) (o:DV):Ch->Ch
 | .dead=> .dead
 | .box cs=> .box (cm id o cs)
 | .vec e sz rows=> .vec e sz (c0 id o rows)
 | .map kk kv=> .map kk (sD id o kv)
 | .bld T e bs=> .bld T e bs
def bl (id:Nat) (o:DV) (s:Nat->SV):Nat->SV:=fun i=>c8 id o (s i)
def bG (id:Nat) (o:DV) (h:Nat->Ch):Nat->Ch:=fun i=>jY id o (h i)
def St.swap (σ:St) (id:Nat) (o:DV) (c:Ch):St:=⟨bl id o σ.s,am (bG id o σ.h) id c⟩
theorem sE (id:Nat) (o:DV):∀ (xs ys:List SV),cm id o (xs++ys)=cm id o xs++cm id o ys
 |[],ys=>rfl
 |x::xs,ys=>by simp[cm,sE id o xs ys]
theorem kO (id:Nat) (o:DV):∀ (xs:List SV),(cm id o xs).length=xs.length
 |[]=>rfl
 |x::xs=>by simp[cm,kO id o xs]
theorem jr (id:Nat) (o:DV):∀ (rs:List (List SV)),(c0 id o rs).flatten=cm id o rs.flatten
 |[]=>rfl
 |r::rs=>by simp[c0,sE,jr id o rs]
theorem iZ (id:Nat) (o:DV):∀ (rs:List (List SV)),(c0 id o rs).length=rs.length
 |[]=>rfl
 |r::rs=>by simp[c0,iZ id o rs]
theorem pJ (id:Nat) (o:DV) (sz:Nat):∀ (rs:List (List SV)),(∀ r∈rs,r.length=sz)->∀ r∈c0 id o rs,r.length=sz
 |[],_,r,D=>by simp[c0] at D
 |q::rs,h,r,D=>by
  simp only[c0,Tf] at D
  rcases D with rfl|D
  ·rw[kO];exact h q oS
  ·exact pJ id o sz rs (fun r D=>h r (by simp[D])) r D
section
variable {w w':World} {M M':Nat->Prop} {κ:Nat->Value} {id:Nat} {o:DV} {v:Value}
mutual
theorem gJ (h:jE w M w' M') (hd:aW w' M' o (κ id)):∀ (x:SV) (u:Value),ai w M κ x u->ai w' M' (am κ id v) (c8 id o x) u
 | .d x,u,D=>by simp only[ai,c8] at *;exact D.ext h
 | .nils,u,D=>by simp only[ai,c8] at *;exact D
 | .lit sz n cs,u,D=>by
  simp only[ai,c8] at *
  obtain⟨b,vs,h1,h2,E,h4,h5,h6,h7⟩:=D
  exact⟨b,vs,h1,(h.keep b E h2).2,TJ E h.size,h4,h5,fun j v hj=>by rw[h.cell E h2];exact h6 j v hj,pK h hd cs vs h7⟩
 | .agg cs,u,D=>by
  simp only[ai,c8] at *
  obtain⟨vs,h1,h2,E⟩:=D
  exact⟨vs,h1,h2,pK h hd cs vs E⟩
 | .tup cs,u,D=>by
  simp only[ai,c8] at *
  obtain⟨vs,h1,E⟩:=D
  exact⟨vs,h1,pK h hd cs vs E⟩
 | .ref i off,u,D=>by
  simp only[c8]
  split
  ·simp[ai,aW]
  ·rename_i U
   simp only[ai] at *
   rw[aY _ _ _ _ U];exact D
 | .vec i,u,D=>by
  simp only[c8]
  split
  ·rename_i he
   subst he
   simp only[ai] at *;subst D;exact hd
  ·rename_i U
   simp only[ai] at *
   rw[aY _ _ _ _ U];exact D
 | .vref i sz k off,u,D=>by
  simp only[c8]
  split
  ·simp[ai,aW]
  ·rename_i U
   simp only[ai] at *
   rw[aY _ _ _ _ U];exact D
 | .mp i,u,D=>by
  simp only[c8]
  split
  ·simp[ai,aW]
  ·rename_i U
   simp only[ai] at *
   rw[aY _ _ _ _ U];exact D
 | .own _ _,u,D=>by simp only[ai] at D
theorem pK (h:jE w M w' M') (hd:aW w' M' o (κ id)):∀ (cs:List SV) (R:List Value),an w M κ cs R->an w' M' (am κ id v) (cm id o cs) R
 |[],R,D=>by simp only[an,cm] at *;exact D
 |c::cs,R,D=>by
  simp only[an,cm] at *
  obtain⟨u,g,h1,h2,E⟩:=D
  exact⟨u,g,h1,gJ h hd c u h2,pK h hd cs g E⟩
end
mutual
theorem K2 (h:jE w M w' M') (hd:aW w' M' o (κ id)):∀ (x:SV) (u:Value) (F:List Nat),(∀ b∈F,w'.heap[b]?=w.heap[b]?)->aO w M κ x u F->aO w' M' (am κ id v) (c8 id o x) u F
 | .own m d,u,F,hk,D=>by simp only[aO,c8] at *;exact eO.ext h m d u F hk D
 | .agg cs,u,F,hk,D=>by
  simp only[aO,c8] at *
  obtain⟨vs,h1,h2,E⟩:=D
  exact⟨vs,h1,h2,we h hd cs vs F hk E⟩
 | .tup cs,u,F,hk,D=>by
  simp only[aO,c8] at *
  obtain⟨vs,h1,E⟩:=D
  exact⟨vs,h1,we h hd cs vs F hk E⟩
 | .d x,u,F,hk,D=>by simp only[aO] at D;obtain⟨rfl,D⟩:=D;exact aO.of_S _ _ (gJ h hd _ _ D)
 | .nils,u,F,hk,D=>by simp only[aO] at D;obtain⟨rfl,D⟩:=D;exact aO.of_S _ _ (gJ h hd _ _ D)
 | .lit _ _ _,u,F,hk,D=>by simp only[aO] at D;obtain⟨rfl,D⟩:=D;exact aO.of_S _ _ (gJ h hd _ _ D)
 | .ref _ _,u,F,hk,D=>by simp only[aO] at D;obtain⟨rfl,D⟩:=D;exact aO.of_S _ _ (gJ h hd _ _ D)
 | .vec _,u,F,hk,D=>by simp only[aO] at D;obtain⟨rfl,D⟩:=D;exact aO.of_S _ _ (gJ h hd _ _ D)
 | .vref _ _ _ _,u,F,hk,D=>by simp only[aO] at D;obtain⟨rfl,D⟩:=D;exact aO.of_S _ _ (gJ h hd _ _ D)
 | .mp _,u,F,hk,D=>by simp only[aO] at D;obtain⟨rfl,D⟩:=D;exact aO.of_S _ _ (gJ h hd _ _ D)
theorem we (h:jE w M w' M') (hd:aW w' M' o (κ id)):∀ (cs:List SV) (R:List Value) (F:List Nat),(∀ b∈F,w'.heap[b]?=w.heap[b]?)->ap w M κ cs R F->ap w' M' (am κ id v) (cm id o cs) R F
 |[],R,F,hk,D=>by simp only[ap,cm] at *;exact D
 |c::cs,R,F,hk,D=>by
  simp only[ap,cm] at *
  obtain⟨u,g,W,F2,h1,rfl,h2,E⟩:=D
  exact⟨u,g,W,F2,h1,rfl,K2 h hd c u W (fun b hb=>hk b (by simp[hb])) h2,we h hd cs g F2 (fun b hb=>hk b (by simp[hb])) E⟩
end
theorem Ae (h:jE w M w' M') (hd:aW w' M' o (κ id)) {kk:KK}:∀ (kv:List (DV×SV)) (es:List MapEntry) (F:List Nat),(∀ b∈F,w'.heap[b]?=w.heap[b]?)->bJ w M κ kk kv es F->bJ w' M' (am κ id v) kk (sD id o kv) es F
 |[],es,F,hk,D=>by simp only[bJ,sD] at *;exact D
 |(k,c)::kv,es,F,hk,D=>by
  simp only[bJ,sD] at *
  obtain⟨e,z,W,F2,h1,rfl,h2,E,h4,h5⟩:=D
  exact⟨e,z,W,F2,h1,rfl,h2,E,K2 h hd c _ W (fun b hb=>hk b (by simp[hb])) h4,Ae h hd kv z F2 (fun b hb=>hk b (by simp[hb])) h5⟩
theorem wg (h:jE w M w' M') (hd:aW w' M' o (κ id)) {j:Nat} (hj:j≠id) {c:Ch} (hk:∀ b∈F,w'.heap[b]?=w.heap[b]?) (hc:jo w M κ j c F):jo w' M' (am κ id v) j (jY id o c) F:=by
 have S:am κ id v j=κ j:=aY _ _ _ _ hj
 cases c with
 |dead=>exact hc
 |box cs=>
  obtain⟨b,T,vs,G,h1,h2,E,h4,rfl⟩:=hc
  exact⟨b,T,vs,G,by rw[S];exact h1,by rw[hk b oS];exact h2,E,we h hd cs vs G (fun b hb=>hk b (by simp[hb])) h4,rfl⟩
 |vec e sz rows=>
  obtain⟨xs,G,h1,h2,E,h4,rfl⟩:=hc
  refine⟨xs,G,by rw[S,iZ];exact sB (fun b hb=>hk b (by simp[hb])) h1,h2,pJ id o sz rows E, ?_,by rw[S]⟩
  rw[jr]
  exact we h hd _ xs G (fun b hb=>hk b (by simp[hb])) h4
 |map kk kv=>
  obtain⟨r,es,s,G,h1,h2,hB,E,rfl⟩:=hc
  exact⟨r,es,s,G,by rw[S];exact h1,by rw[hk r oS];exact h2,hB,Ae h hd kv es G (fun b hb=>hk b (by simp[hb])) E,rfl⟩
 |bld T e bs=>show yi w' T e bs (am κ id v j) F;rw[S];exact yi.ext hk hc
end
section
variable {P:Program} {c:Cx} {σ:St} {κ:Nat->Value} {φ:Nat->List Nat} {a:Act} {w:World}
theorem pL (D:cW c σ κ φ a w) (d:w.heap.size<=w'.heap.size) (l:∀ b,b<w.heap.size->b∉φ id->w'.heap[b]?=w.heap[b]?) (B:∀ b∈L,(w.heap.size<=b\/b∈φ id)/\b<w'.heap.size):
  jE w (own c φ) w' (own c (am φ id L)):=by
 refine⟨d,fun b hb Z=>⟨l b hb fun h1=>Z (.inr ⟨id,h1⟩), ?_⟩⟩
 rintro(h0|⟨j,hj⟩)
 ·exact Z (.inl h0)
 ·by_cases f:j=id
  ·subst f
   rw[ar] at hj
   rcases(B b hj).1 with h1|h1
   ·omega
   ·exact Z (.inr ⟨j,h1⟩)
  ·rw[aY _ _ _ _ f] at hj
   exact Z (.inr ⟨j,hj⟩)
theorem cW.swap (D:cW c σ κ φ a w) (h9:v.oneCell'=true) (p:w'.os=w.os) (e:w'.tape=w.tape) (k:w'.output=w.output) (d:w.heap.size<=w'.heap.size) (l:∀ b,b<w.heap.size->b∉φ id->w'.heap[b]?=w.heap[b]?) (B:∀ b∈L,(w.heap.size<=b\/b∈φ id)/\b<w'.heap.size) (z:L.Nodup) (hd:aW w' (own c (am φ id L)) o (κ id)) (hc:jo w' (own c (am φ id L)) (am κ id v) id ch L):cW c (σ.swap id o ch) (am κ id v) (am φ id L) a w':=by
 have Q:=pL D d l B
 refine⟨D.chg.trans ⟨p,e,k,d,fun b hb hA=>l b (TJ hb D.size) fun m=> ?_⟩,TW D.size d,D.m0,D.ntmps,D.defers,fun j=> ?_,fun i hi=>gJ Q hd _ _ (D.slots i hi),fun i v hv=>gJ Q hd _ _ (D.ghost i v hv),fun j=> ?_,fun j b hb=> ?_,fun j=> ?_, ?_⟩
 ·rcases(D.mine id b m).2 with h|h
  ·omega
  ·exact hA h
 ·by_cases f:j=id
  ·subst f;rw[ar];exact h9
  ·rw[aY _ _ _ _ f];exact D.kok j
 ·by_cases f:j=id
  ·subst f
   rw[show(σ.swap j o ch).h j=ch by simp[St.swap,ar],ar];exact hc
  ·rw[show(σ.swap id o ch).h j=jY id o (σ.h j) by simp[St.swap,aY _ _ _ _ f,bG],aY _ _ _ _ f]
   exact wg Q hd f (fun b hb=>l b (D.mine j b hb).1 fun h6=>D.sep j id b f hb h6) (D.chunks j)
 ·by_cases f:j=id
  ·subst f
   rw[ar] at hb
   refine⟨(B b hb).2, ?_⟩
   rcases(B b hb).1 with h|h
   ·exact .inl (TW D.size h)
   ·exact(D.mine j b h).2
  ·rw[aY _ _ _ _ f] at hb
   exact⟨TJ (D.mine j b hb).1 d,(D.mine j b hb).2⟩
 ·by_cases f:j=id
  ·subst f;rw[ar];exact z
  ·rw[aY _ _ _ _ f];exact D.nod j
 ·have key:∀ j b,j≠id->b∈L->b∈φ j->False:=fun j b hj h1 h2=>by
   rcases(B b h1).1 with h|h
   ·have:=(D.mine j b h2).1;omega
   ·exact D.sep j id b hj h2 h
  intro i j b r0 hi hj
  by_cases g:i=id
  ·subst g
   rw[ar] at hi;rw[aY _ _ _ _ (Ne.symm r0)] at hj
   exact key j b (Ne.symm r0) hi hj
  ·rw[aY _ _ _ _ g] at hi
   by_cases n:j=id
   ·subst n;rw[ar] at hj;exact key i b g hj hi
   ·rw[aY _ _ _ _ n] at hj;exact D.sep i j b r0 hi hj
theorem cW.modify (D:cW c σ κ φ a w) (p:w'.os=w.os) (e:w'.tape=w.tape) (k:w'.output=w.output) (d:w'.heap.size=w.heap.size) (l:∀ b,b∉φ id->w'.heap[b]?=w.heap[b]?) (B:L.Sublist (φ id)) (hc:jE w (own c φ) w' (own c (am φ id L))->jo w' (own c (am φ id L)) κ id ch L):cW c ⟨σ.s,am σ.h id ch⟩ κ (am φ id L) a w':=by
 have q:∀ b∈L,(w.heap.size<=b\/b∈φ id)/\b<w'.heap.size:=fun b hb=>⟨.inr (B.subset hb),by rw[d];exact(D.mine id b (B.subset hb)).1⟩
 have Q:=pL D oM (fun b _ hb=>l b hb) q
 refine⟨D.chg.trans ⟨p,e,k,by omega,fun b hb hA=>l b fun m=> ?_⟩,by have:=D.size;omega,D.m0,D.ntmps,D.defers,D.kok,fun i hi=>ai.ext Q _ _ (D.slots i hi),fun i v hv=>ai.ext Q _ _ (D.ghost i v hv),fun j=> ?_,fun j b hb=> ?_,fun j=> ?_, ?_⟩
 ·rcases(D.mine id b m).2 with h|h
  ·omega
  ·exact hA h
 ·by_cases f:j=id
  ·subst f;dsimp only;rw[ar,ar];exact hc Q
  ·dsimp only;rw[aY _ _ _ _ f,aY _ _ _ _ f]
   exact(D.chunks j).ext Q fun b hb=>l b fun h6=>D.sep j id b f hb h6
 ·by_cases f:j=id
  ·subst f;rw[ar] at hb;exact⟨(q b hb).2,(D.mine j b (B.subset hb)).2⟩
  ·rw[aY _ _ _ _ f] at hb;rw[d];exact D.mine j b hb
 ·by_cases f:j=id
  ·subst f;rw[ar];exact(D.nod j).sublist B
  ·rw[aY _ _ _ _ f];exact D.nod j
 ·have n:∀ i b,b∈am φ id L i->b∈φ i:=fun i b hb=>by
   by_cases g:i=id
   ·subst g;rw[ar] at hb;exact B.subset hb
   ·rwa[aY _ _ _ _ g] at hb
  exact fun i j b r0 hi hj=>D.sep i j b r0 (n i b hi) (n j b hj)
theorem cW.two (D:cW c σ κ φ a w) {g:Nat} {ch':Ch} {G G':List Nat} (U:id≠g) (h9:u.oneCell'=true) (hG:∀ b∈G,b∈φ id\/b∈φ g) (J:∀ b∈G',b∈φ id\/b∈φ g) (hn:G.Nodup) (A:G'.Nodup) (e:∀ b∈G,b∉G') (hd:aW w (own c (am (am φ id G) g G')) o (κ g)) (hc:jE w (own c φ) w (own c (am (am φ id G) g G'))->jo w (own c (am (am φ id G) g G')) (am κ g u) id ch G) (f:jE w (own c φ) w (own c (am (am φ id G) g G'))->jo w (own c (am (am φ id G) g G')) (am κ g u) g ch' G'):
  cW c ⟨bl g o σ.s,am (am (bG g o σ.h) id ch) g ch'⟩ (am κ g u) (am (am φ id G) g G') a w:=by
 have n:∀ i b,b∈am (am φ id G) g G' i->∃ k,b∈φ k/\(k=i\/((k=id\/k=g)/\(i=id\/i=g))):=fun i b hb=>by
  by_cases h5:i=g
  ·subst h5;rw[ar] at hb
   rcases J b hb with h|h
   ·exact⟨id,h,.inr ⟨.inl rfl,.inr rfl⟩⟩
   ·exact⟨i,h,.inl rfl⟩
  ·rw[aY _ _ _ _ h5] at hb
   by_cases hi:i=id
   ·subst hi;rw[ar] at hb
    rcases hG b hb with h|h
    ·exact⟨i,h,.inl rfl⟩
    ·exact⟨g,h,.inr ⟨.inr rfl,.inl rfl⟩⟩
   ·rw[aY _ _ _ _ hi] at hb;exact⟨i,hb,.inl rfl⟩
 have Q:jE w (own c φ) w (own c (am (am φ id G) g G')):=jE.shrink fun b hb=>by
  rcases hb with h|⟨i,h⟩
  ·exact .inl h
  ·obtain⟨k,hk,_⟩:=n i b h;exact .inr ⟨k,hk⟩
 refine⟨D.chg,D.size,D.m0,D.ntmps,D.defers,fun j=> ?_,fun i hi=>gJ Q hd _ _ (D.slots i hi),fun i v hv=>gJ Q hd _ _ (D.ghost i v hv),fun j=> ?_,fun j b hb=> ?_,fun j=> ?_, ?_⟩
 ·by_cases hj:j=g
  ·subst hj;rw[ar];exact h9
  ·rw[aY _ _ _ _ hj];exact D.kok j
 ·by_cases r3:j=g
  ·subst r3;simp only[ar];exact f Q
  ·dsimp only;rw[aY _ _ _ _ r3,aY _ _ _ _ r3]
   by_cases hj:j=id
   ·subst hj;rw[ar,ar];exact hc Q
   ·rw[aY _ _ _ _ hj,aY _ _ _ _ hj]
    exact wg Q hd r3 (fun _ _=>rfl) (D.chunks j)
 ·obtain⟨k,hk,_⟩:=n j b hb;exact D.mine k b hk
 ·by_cases r3:j=g
  ·subst r3;rw[ar];exact A
  ·rw[aY _ _ _ _ r3]
   by_cases hj:j=id
   ·subst hj;rw[ar];exact hn
   ·rw[aY _ _ _ _ hj];exact D.nod j
 ·intro i j b r0 hi hj
  obtain⟨k,hk,h1⟩:=n i b hi
  obtain⟨l,hl,h2⟩:=n j b hj
  have r1:k=l:=Classical.byContradiction fun r1=>D.sep k l b r1 hk hl
  subst r1
  have m:(i=id\/i=g)/\(j=id\/j=g):=by
   rcases h1 with rfl|⟨h1,u6⟩
   ·rcases h2 with rfl|⟨h2,d⟩
    ·exact absurd rfl r0
    ·exact⟨h2,d⟩
   ·rcases h2 with rfl|⟨h2,d⟩
    ·exact⟨u6,h1⟩
    ·exact⟨u6,d⟩
  rcases m with⟨rfl|rfl,rfl|rfl⟩
  ·exact r0 rfl
  ·rw[aY _ _ _ _ r0,ar] at hi;rw[ar] at hj;exact e b hi hj
  ·rw[ar] at hi;rw[aY _ _ _ _ (Ne.symm r0),ar] at hj;exact e b hj hi
  ·exact r0 rfl
mutual
def bj.plain:bj->Bool
 | .sh=>true
 | .sl _ ms=>bj.plains ms
 | .pt ms=>bj.plains ms
 | .mp _ _=>false
 | .bld _ _=>false
def bj.plains:List bj->Bool
 |[]=>true
 |m::ms=>bj.plain m&&bj.plains ms
end
theorem Af {rows:List (List DV)} {xs:List Value} (ho:w.ownsRow 0 e sz v rows.length xs) (h9:∀ x∈xs,x.oneCell'=true) (W:∀ r∈rows,r.length=sz) (hl:aC w M rows.flatten xs) (hM:∀ b∈fz v,¬ M b):aW w M (.slice rows) v:=by
 unfold aW
 rcases ho.2 with⟨hk,hn⟩|⟨g,N,I,hk,hB,hg,z,_,Z,s⟩
 ·have:rows=[]:=Ta.1 hn
  subst this
  exact⟨none,0,hk,SZ _,fun _=>rfl,.inl rfl⟩
 ·refine⟨some ⟨g,0,none⟩,N,hk,z,by simp,.inr ⟨g,0,sz,rfl,hM g (by simp[fz,hk,sc]),(Ts.1 hg).1, ?_⟩⟩
  rw[aQ.iff]
  refine⟨W,bw.of_row hg hl h9 fun j v hj=> ?_⟩
  rw[<-s,Ub] at hj
  split at hj
  ·simpa using hj
  ·cases hj
theorem fE.flat {R:List DV->List Value->List Nat->Prop} {M:Nat->Prop} {f:List Nat}:∀ {rows:List (List DV)} {xs:List Value} {G:List Nat},(∀ b∈G,b∈f)->(∀ r ys G',(∀ b∈G',b∈f)->R r ys G'->aC w M r ys)->fE R rows xs G->aC w M rows.flatten xs
 |[],xs,G,_,_,h=>by obtain⟨rfl,_⟩:=h;simp[aC]
 |r::rs,xs,G,hG,t,h=>by
  obtain⟨ys,zs,G1,G2,rfl,rfl,E,h4⟩:=h
  rw[TF]
  exact(t r ys G1 (fun b hb=>hG b (by simp[hb])) E).append (fE.flat (fun b hb=>hG b (by simp[hb])) t h4)
mutual
theorem eO.frz {M M':Nat->Prop} (hM:∀ b,M' b->M b):∀ (m:bj) (d:DV) (v:Value) (F:List Nat),m.plain=true->(∀ b∈F,¬ M' b)->eO w M m d v F->aW w M' d v
 | .sh,d,v,F,_,B,D=>by unfold eO at D;exact D.2.ext (jE.shrink hM)
 | .sl e ms,d,v,F,Y,B,D=>by
  unfold eO at D
  obtain⟨rows,xs,G,rfl,ho,h1,h2,E,rfl⟩:=D
  refine Af ho h1 h2 ?_ (fun b hb=>B b (by simp[hb]))
  exact E.flat (f:=G) (fun b hb=>hb) fun r ys G' hG D=>eI.frz hM ms r ys G' (by simpa[bj.plain] using Y) (fun b hb=>B b (by simp[hG b hb])) D
 | .pt ms,d,v,F,Y,B,D=>by
  unfold eO at D
  obtain⟨cs,b,T,vs,G,rfl,rfl,hh,h1,h2,rfl⟩:=D
  have hl:=eI.frz hM ms cs vs G (by simpa[bj.plain] using Y) (fun b hb=>B b (by simp[hb])) h2
  unfold aW
  exact⟨b,0,rfl,B b oS,(Ts.1 hh).1,bw.of_row hh hl h1 oS⟩
 | .mp _ _,d,v,F,Y,_,_=>by simp[bj.plain] at Y
 | .bld _ _,d,v,F,Y,_,_=>by simp[bj.plain] at Y
theorem eI.frz {M M':Nat->Prop} (hM:∀ b,M' b->M b):∀ (ms:List bj) (J:List DV) (vs:List Value) (F:List Nat),bj.plains ms=true->(∀ b∈F,¬ M' b)->eI w M ms J vs F->aC w M' J vs
 |[],J,vs,F,_,_,D=>by unfold eI at D;obtain⟨rfl,rfl,_⟩:=D;unfold aC;rfl
 |m::ms,J,vs,F,Y,B,D=>by
  unfold eI at D
  obtain⟨d,i,v,A,W,F2,rfl,rfl,rfl,E,h4⟩:=D
  simp only[bj.plains,SR] at Y
  unfold aC
  exact⟨v,A,rfl,eO.frz hM m d v W Y.1 (fun b hb=>B b (by simp[hb])) E,eI.frz hM ms i A F2 Y.2 (fun b hb=>B b (by simp[hb])) h4⟩
end
def SV.frz:SV->Option DV
 | .own m v=>if m.plain then some v else none
 | .d v=>some v
 | .nils=>some (.slice [])
 | .lit sz n cs=>SV.toDV (.lit sz n cs)
 |_=>none
def SV.frzs:List SV->Option (List DV)
 |[]=>some []
 |c::cs=>match SV.frz c,SV.frzs cs with|some x,some xs=>some (x::xs)|_,_=>none
def SV.frzR:List (List SV)->Option (List (List DV))
 |[]=>some []
 |r::rs=>match SV.frzs r,SV.frzR rs with|some x,some xs=>some (x::xs)|_,_=>none
theorem nI (hM:∀ b,M' b->M b) {x:SV} {d:DV} (B:∀ b∈F,¬ M' b) (D:aO w M κ x u F) (h:x.frz=some d):aW w M' d u:=by
 cases x with
 |own m d'=>
  simp only[SV.frz] at h
  split at h
  ·rename_i Y
   simp only[SN] at h;subst h
   simp only[aO] at D
   exact D.frz hM m _ u F Y B
  ·cases h
 |d v=>exact(ai.toDV (.d v) _ _ (by simp only[aO] at D;exact D.2) (by simpa only[SV.frz,SV.toDV] using h)).ext (jE.shrink hM)
 |nils=>exact(ai.toDV .nils _ _ (by simp only[aO] at D;exact D.2) (by simpa only[SV.frz,SV.toDV] using h)).ext (jE.shrink hM)
 |lit sz n cs=>exact(ai.toDV (.lit sz n cs) _ _ (by simp only[aO] at D;exact D.2) (by simpa only[SV.frz] using h)).ext (jE.shrink hM)
 |_=>simp[SV.frz] at h
theorem Ag {M M':Nat->Prop} (hM:∀ b,M' b->M b):∀ {cs:List SV} {R:List Value} {F:List Nat} {J:List DV},(∀ b∈F,¬ M' b)->ap w M κ cs R F->SV.frzs cs=some J->aC w M' J R
 |[],R,F,J,B,D,h=>by
  simp only[SV.frzs,SN] at h;subst h
  simp only[ap] at D;unfold aC;exact D.1
 |c::cs,R,F,J,B,D,h=>by
  simp only[SV.frzs] at h
  split at h
  ·rename_i x xs hx T
   simp only[SN] at h;subst h
   simp only[ap] at D
   obtain⟨u,g,W,F2,rfl,rfl,h1,h2⟩:=D
   unfold aC
   exact⟨u,g,rfl,nI hM (fun b hb=>B b (by simp[hb])) h1 hx,Ag hM (fun b hb=>B b (by simp[hb])) h2 T⟩
  ·cases h
theorem yt:∀ (xs ys:List SV),SV.frzs (xs++ys)=match SV.frzs xs,SV.frzs ys with|some a,some b=>some (a++b)|_,_=>none
 |[],ys=>by simp only[S8,SV.frzs];cases SV.frzs ys<;>rfl
 |x::xs,ys=>by
  simp only[Td,SV.frzs,yt xs ys]
  cases SV.frz x<;>cases SV.frzs xs<;>cases SV.frzs ys<;>rfl
theorem yu:∀ {xs:List SV} {J:List DV},SV.frzs xs=some J->J.length=xs.length
 |[],J,h=>by simp only[SV.frzs,SN] at h;subst h;rfl
 |x::xs,J,h=>by
  simp only[SV.frzs] at h
  split at h
  ·rename_i y ys hy k
   simp only[SN] at h;subst h
   simp[yu k]
  ·cases h
theorem CQ:∀ {rows:List (List SV)} {J:List (List DV)},SV.frzR rows=some J->SV.frzs rows.flatten=some J.flatten/\J.length=rows.length/\∀ sz,(∀ r∈rows,r.length=sz)->∀ r∈J,r.length=sz
 |[],J,h=>by simp only[SV.frzR,SN] at h;subst h;simp[SV.frzs]
 |r::rows,J,h=>by
  simp only[SV.frzR] at h
  split at h
  ·rename_i x xs hx T
   simp only[SN] at h;subst h
   obtain⟨h1,h2,E⟩:=CQ T
   refine⟨by simp only[TF,yt,hx,h1],by simp[h2],fun sz W q hq=> ?_⟩
   simp only[Tf] at hq
   rcases hq with rfl|hq
   ·rw[yu hx];exact W r oS
   ·exact E sz (fun r D=>W r (by simp[D])) q hq
  ·cases h
theorem DZ (hM:∀ b,M' b->M b) (B:∀ b∈F,¬ M' b) (D:jo w M κ id (.vec e sz rows) F) (h:SV.frzR rows=some J):aW w M' (.slice J) (κ id):=by
 obtain⟨xs,G,h1,h2,E,h4,rfl⟩:=D
 obtain⟨k1,k2,k3⟩:=CQ h
 exact Af (by rw[k2];exact h1) h2 (k3 sz E) (Ag hM (fun b hb=>B b (by simp[hb])) h4 k1) (fun b hb=>B b (by simp[hb]))
theorem cW.freeze (D:cW c σ κ φ a w) (hv:σ.h id= .vec e sz rows) (C:SV.frzR rows=some J):cW c (σ.swap id (.slice J) .dead) (am κ id (.pointer none)) (am φ id []) a w:=by
 refine D.swap rfl rfl rfl rfl (SZ _) (fun _ _ _=>rfl) oS oS ?_ rfl
 have r0:=D.chunks id
 rw[hv] at r0
 refine DZ (M:=own c φ) (fun b hb=> ?_) (fun b hb=> ?_) r0 C
 ·rcases hb with h|⟨j,h⟩
  ·exact .inl h
  ·by_cases f:j=id
   ·subst f;rw[ar] at h;simp at h
   ·rw[aY _ _ _ _ f] at h;exact .inr ⟨j,h⟩
 ·rintro(h|⟨j,h⟩)
  ·have h1:=D.m0 b h
   have h2:=(D.mine id b hb).2
   rcases h2 with h2|h2
   ·omega
   ·exact h1.2 h2
  ·by_cases f:j=id
   ·subst f;rw[ar] at h;simp at h
   ·rw[aY _ _ _ _ f] at h;exact D.sep j id b f h hb
theorem cW.drop (D:cW c σ κ φ a w) (id:Nat):cW c ⟨σ.s,am σ.h id .dead⟩ κ (am φ id []) a w:=
 D.modify rfl rfl rfl rfl (fun _ _=>rfl) (List.nil_sublist _) (fun _=>rfl)
theorem cW.vecnil (D:cW c σ κ φ a w) {d:Nat} (hs:σ.s d= .nils):cW c {σ.swap id .any (.vec e sz []) with s:=am (bl id .any σ.s) d (.vec id)} (am κ id (.slice none 0 0)) (am φ id []) a w:=by
 have h1:cW c (σ.swap id .any (.vec e sz [])) (am κ id (.slice none 0 0)) (am φ id []) a w:=by
  refine D.swap rfl rfl rfl rfl (SZ _) (fun _ _ _=>rfl) oS oS (by unfold aW;trivial) ?_
  simp only[jo]
  exact⟨[],[],by rw[ar];exact World.ownsRow_nil w 0 e sz,by simp,by simp,by simp[ap],by rw[ar];rfl⟩
 have key:∀ i v,ai w (own c φ) κ (σ.s i) v->ai w (own c (am φ id [])) (am κ id (.slice none 0 0)) ((σ.swap id .any (.vec e sz [])).s i) v->ai w (own c (am φ id [])) (am κ id (.slice none 0 0)) (am (bl id .any σ.s) d (.vec id) i) v:=fun i v h0 hv=>by
  by_cases h5:i=d
  ·subst h5
   rw[hs] at h0
   simp only[ai] at h0
   simp only[ar,ai]
   exact h0
  ·simp only[aY _ _ _ _ h5]
   exact hv
 exact⟨h1.chg,h1.size,h1.m0,h1.ntmps,h1.defers,h1.kok,fun i hi=>key i _ (D.slots i hi) (h1.slots i hi),fun i v hv=>key _ v (D.ghost i v hv) (h1.ghost i v hv),h1.chunks,h1.mine,h1.nod,h1.sep⟩
end
end Go.Proofs.YtgmnipfafmphaaaGreatDoor

