/-
  My text.
-/
import Derived.Test.YtgmnipfafmphaaaGreatDoorSXEngG
namespace Go.Proofs.YtgmnipfafmphaaaGreatDoor
set_option linter.unusedVariables false
open Go.RowKit
variable {F F':List Nat} {J:List (List DV)} {M M':Nat->Prop} {ch:Ch} {e id:Nat} {o:DV} {rows:List (List SV)} {sz:Nat} {u v:Value} {w':World}
mutual
def d6 (id:Nat) (o:DV):SV->SV
 | .d v=> .d v
 | .nils=> .nils
 | .lit sz n cs=> .lit sz n (ck id o cs)
 | .agg cs=> .agg (ck id o cs)
 | .tup cs=> .tup (ck id o cs)
 | .ref i off=>if i=id then .d .any else .ref i off
 | .vec i=>if i=id then .d o else .vec i
 | .vref i sz k off=>if i=id then .d .any else .vref i sz k off
 | .mp i=>if i=id then .d .any else .mp i
 | .own m v=> .own m v
def ck (id:Nat) (o:DV):List SV->List SV
 |[]=>[]
 |c::cs=>d6 id o c::ck id o cs
end
def dz (id:Nat) (o:DV):List (List SV)->List (List SV)
 |[]=>[]
 |r::rs=>ck id o r::dz id o rs
def vT (id:Nat) (o:DV):List (DV×SV)->List (DV×SV)
 |[]=>[]
 |(k,c)::kv=>(k,d6 id o c)::vT id o kv
def mj (id:Nat) (o:DV):Ch->Ch
 | .dead=> .dead
 | .box cs=> .box (ck id o cs)
 | .vec e sz rows=> .vec e sz (dz id o rows)
 | .map kk kv=> .map kk (vT id o kv)
 | .bld T e bs=> .bld T e bs
def bG (id:Nat) (o:DV) (s:Nat->SV):Nat->SV:=fun i=>d6 id o (s i)
def bK (id:Nat) (o:DV) (h:Nat->Ch):Nat->Ch:=fun i=>mj id o (h i)
def St.swap (σ:St) (id:Nat) (o:DV) (c:Ch):St:=⟨bG id o σ.s,ap (bK id o σ.h) id c⟩
theorem vU (id:Nat) (o:DV):∀ (xs ys:List SV),ck id o (xs++ys)=ck id o xs++ck id o ys
 |[],ys=>rfl
 |x::xs,ys=>by simp[ck,vU id o xs ys]
theorem nM (id:Nat) (o:DV):∀ (xs:List SV),(ck id o xs).length=xs.length
 |[]=>rfl
 |x::xs=>by simp[ck,nM id o xs]
theorem ml (id:Nat) (o:DV):∀ (rs:List (List SV)),(dz id o rs).flatten=ck id o rs.flatten
 |[]=>rfl
 |r::rs=>by simp[dz,vU,ml id o rs]
theorem kM (id:Nat) (o:DV):∀ (rs:List (List SV)),(dz id o rs).length=rs.length
 |[]=>rfl
 |r::rs=>by simp[dz,kM id o rs]
theorem tN (id:Nat) (o:DV) (sz:Nat):∀ (rs:List (List SV)),(∀ r∈rs,r.length=sz)->∀ r∈dz id o rs,r.length=sz
 |[],_,r,D=>by simp[dz] at D
 |q::rs,h,r,D=>by
  simp only[dz,VK] at D
  rcases D with rfl|D
  ·rw[nM];exact h q oS
  ·exact tN id o sz rs (fun r D=>h r (by simp[D])) r D
section
variable {w w':World} {M M':Nat->Prop} {κ:Nat->Value} {id:Nat} {o:DV} {v:Value}
mutual
theorem ji (h:mG w M w' M') (hd:bf w' M' o (κ id)):∀ (x:SV) (u:Value),al w M κ x u->al w' M' (ap κ id v) (d6 id o x) u
 | .d x,u,D=>by simp only[al,d6] at *;exact D.ext h
 | .nils,u,D=>by simp only[al,d6] at *;exact D
 | .lit sz n cs,u,D=>by
  simp only[al,d6] at *
  obtain⟨b,vs,h1,h2,E,h4,h5,h6,h7⟩:=D
  exact⟨b,vs,h1,(h.keep b E h2).2,V_ E h.size,h4,h5,fun j v hj=>by rw[h.cell E h2];exact h6 j v hj,tO h hd cs vs h7⟩
 | .agg cs,u,D=>by
  simp only[al,d6] at *
  obtain⟨vs,h1,h2,E⟩:=D
  exact⟨vs,h1,h2,tO h hd cs vs E⟩
 | .tup cs,u,D=>by
  simp only[al,d6] at *
  obtain⟨vs,h1,E⟩:=D
  exact⟨vs,h1,tO h hd cs vs E⟩
 | .ref i off,u,D=>by
  simp only[d6]
  split
  ·simp[al,bf]
  ·rename_i U
   simp only[al] at *
   rw[bh _ _ _ _ U];exact D
 | .vec i,u,D=>by
  simp only[d6]
  split
  ·rename_i he
   subst he
   simp only[al] at *;subst D;exact hd
  ·rename_i U
   simp only[al] at *
   rw[bh _ _ _ _ U];exact D
 | .vref i sz k off,u,D=>by
  simp only[d6]
  split
  ·simp[al,bf]
  ·rename_i U
   simp only[al] at *
   rw[bh _ _ _ _ U];exact D
 | .mp i,u,D=>by
  simp only[d6]
  split
  ·simp[al,bf]
  ·rename_i U
   simp only[al] at *
   rw[bh _ _ _ _ U];exact D
 | .own _ _,u,D=>by simp only[al] at D
theorem tO (h:mG w M w' M') (hd:bf w' M' o (κ id)):∀ (cs:List SV) (X:List Value),av w M κ cs X->av w' M' (ap κ id v) (ck id o cs) X
 |[],X,D=>by simp only[av,ck] at *;exact D
 |c::cs,X,D=>by
  simp only[av,ck] at *
  obtain⟨u,g,h1,h2,E⟩:=D
  exact⟨u,g,h1,ji h hd c u h2,tO h hd cs g E⟩
end
mutual
theorem M1 (h:mG w M w' M') (hd:bf w' M' o (κ id)):∀ (x:SV) (u:Value) (F:List Nat),(∀ b∈F,w'.heap[b]?=w.heap[b]?)->aT w M κ x u F->aT w' M' (ap κ id v) (d6 id o x) u F
 | .own m d,u,F,hk,D=>by simp only[aT,d6] at *;exact f8.ext h m d u F hk D
 | .agg cs,u,F,hk,D=>by
  simp only[aT,d6] at *
  obtain⟨vs,h1,h2,E⟩:=D
  exact⟨vs,h1,h2,za h hd cs vs F hk E⟩
 | .tup cs,u,F,hk,D=>by
  simp only[aT,d6] at *
  obtain⟨vs,h1,E⟩:=D
  exact⟨vs,h1,za h hd cs vs F hk E⟩
 | .d x,u,F,hk,D=>by simp only[aT] at D;obtain⟨rfl,D⟩:=D;exact aT.of_S _ _ (ji h hd _ _ D)
 | .nils,u,F,hk,D=>by simp only[aT] at D;obtain⟨rfl,D⟩:=D;exact aT.of_S _ _ (ji h hd _ _ D)
 | .lit _ _ _,u,F,hk,D=>by simp only[aT] at D;obtain⟨rfl,D⟩:=D;exact aT.of_S _ _ (ji h hd _ _ D)
 | .ref _ _,u,F,hk,D=>by simp only[aT] at D;obtain⟨rfl,D⟩:=D;exact aT.of_S _ _ (ji h hd _ _ D)
 | .vec _,u,F,hk,D=>by simp only[aT] at D;obtain⟨rfl,D⟩:=D;exact aT.of_S _ _ (ji h hd _ _ D)
 | .vref _ _ _ _,u,F,hk,D=>by simp only[aT] at D;obtain⟨rfl,D⟩:=D;exact aT.of_S _ _ (ji h hd _ _ D)
 | .mp _,u,F,hk,D=>by simp only[aT] at D;obtain⟨rfl,D⟩:=D;exact aT.of_S _ _ (ji h hd _ _ D)
theorem za (h:mG w M w' M') (hd:bf w' M' o (κ id)):∀ (cs:List SV) (X:List Value) (F:List Nat),(∀ b∈F,w'.heap[b]?=w.heap[b]?)->az w M κ cs X F->az w' M' (ap κ id v) (ck id o cs) X F
 |[],X,F,hk,D=>by simp only[az,ck] at *;exact D
 |c::cs,X,F,hk,D=>by
  simp only[az,ck] at *
  obtain⟨u,g,N,R,h1,rfl,h2,E⟩:=D
  exact⟨u,g,N,R,h1,rfl,M1 h hd c u N (fun b hb=>hk b (by simp[hb])) h2,za h hd cs g R (fun b hb=>hk b (by simp[hb])) E⟩
end
theorem CY (h:mG w M w' M') (hd:bf w' M' o (κ id)) {kk:KK}:∀ (kv:List (DV×SV)) (es:List MapEntry) (F:List Nat),(∀ b∈F,w'.heap[b]?=w.heap[b]?)->bQ w M κ kk kv es F->bQ w' M' (ap κ id v) kk (vT id o kv) es F
 |[],es,F,hk,D=>by simp only[bQ,vT] at *;exact D
 |(k,c)::kv,es,F,hk,D=>by
  simp only[bQ,vT] at *
  obtain⟨e,z,N,R,h1,rfl,h2,E,h4,h5⟩:=D
  exact⟨e,z,N,R,h1,rfl,h2,E,M1 h hd c _ N (fun b hb=>hk b (by simp[hb])) h4,CY h hd kv z R (fun b hb=>hk b (by simp[hb])) h5⟩
theorem zb (h:mG w M w' M') (hd:bf w' M' o (κ id)) {j:Nat} (hj:j≠id) {c:Ch} (hk:∀ b∈F,w'.heap[b]?=w.heap[b]?) (hc:lV w M κ j c F):lV w' M' (ap κ id v) j (mj id o c) F:=by
 have S:ap κ id v j=κ j:=bh _ _ _ _ hj
 cases c with
 |dead=>exact hc
 |box cs=>
  obtain⟨b,T,vs,G,h1,h2,E,h4,rfl⟩:=hc
  exact⟨b,T,vs,G,by rw[S];exact h1,by rw[hk b oS];exact h2,E,za h hd cs vs G (fun b hb=>hk b (by simp[hb])) h4,rfl⟩
 |vec e sz rows=>
  obtain⟨xs,G,h1,h2,E,h4,rfl⟩:=hc
  refine⟨xs,G,by rw[S,kM];exact vR (fun b hb=>hk b (by simp[hb])) h1,h2,tN id o sz rows E, ?_,by rw[S]⟩
  rw[ml]
  exact za h hd _ xs G (fun b hb=>hk b (by simp[hb])) h4
 |map kk kv=>
  obtain⟨r,es,K,G,h1,h2,hB,E,rfl⟩:=hc
  exact⟨r,es,K,G,by rw[S];exact h1,by rw[hk r oS];exact h2,hB,CY h hd kv es G (fun b hb=>hk b (by simp[hb])) E,rfl⟩
 |bld T e bs=>show A4 w' T e bs (ap κ id v j) F;rw[S];exact A4.ext hk hc
end
section
variable {P:Program} {c:Cx} {σ:St} {κ:Nat->Value} {φ:Nat->List Nat} {a:Act} {w:World}
theorem tP (D:dp c σ κ φ a w) (e:w.heap.size<=w'.heap.size) (l:∀ b,b<w.heap.size->b∉φ id->w'.heap[b]?=w.heap[b]?) (B:∀ b∈F',(w.heap.size<=b\/b∈φ id)/\b<w'.heap.size):
  mG w (own c φ) w' (own c (ap φ id F')):=by
 refine⟨e,fun b hb Z=>⟨l b hb fun h1=>Z (.inr ⟨id,h1⟩), ?_⟩⟩
 rintro(h0|⟨j,hj⟩)
 ·exact Z (.inl h0)
 ·by_cases f:j=id
  ·subst f
   rw[aC] at hj
   rcases(B b hj).1 with h1|h1
   ·omega
   ·exact Z (.inr ⟨j,h1⟩)
  ·rw[bh _ _ _ _ f] at hj
   exact Z (.inr ⟨j,hj⟩)
theorem dp.swap (D:dp c σ κ φ a w) (r1:v.oneCell'=true) (p:w'.os=w.os) (d:w'.tape=w.tape) (k:w'.output=w.output) (e:w.heap.size<=w'.heap.size) (l:∀ b,b<w.heap.size->b∉φ id->w'.heap[b]?=w.heap[b]?) (B:∀ b∈F',(w.heap.size<=b\/b∈φ id)/\b<w'.heap.size) (r3:F'.Nodup) (hd:bf w' (own c (ap φ id F')) o (κ id)) (hc:lV w' (own c (ap φ id F')) (ap κ id v) id ch F'):dp c (σ.swap id o ch) (ap κ id v) (ap φ id F') a w':=by
 have Q:=tP D e l B
 refine⟨D.chg.trans ⟨p,d,k,e,fun b hb hA=>l b (V_ hb D.size) fun m=> ?_⟩,Wz D.size e,D.m0,D.ntmps,D.defers,fun j=> ?_,fun i hi=>ji Q hd _ _ (D.slots i hi),fun i v hv=>ji Q hd _ _ (D.ghost i v hv),fun j=> ?_,fun j b hb=> ?_,fun j=> ?_, ?_⟩
 ·rcases(D.mine id b m).2 with h|h
  ·omega
  ·exact hA h
 ·by_cases f:j=id
  ·subst f;rw[aC];exact r1
  ·rw[bh _ _ _ _ f];exact D.kok j
 ·by_cases f:j=id
  ·subst f
   rw[show(σ.swap j o ch).h j=ch by simp[St.swap,aC],aC];exact hc
  ·rw[show(σ.swap id o ch).h j=mj id o (σ.h j) by simp[St.swap,bh _ _ _ _ f,bK],bh _ _ _ _ f]
   exact zb Q hd f (fun b hb=>l b (D.mine j b hb).1 fun h6=>D.sep j id b f hb h6) (D.chunks j)
 ·by_cases f:j=id
  ·subst f
   rw[aC] at hb
   refine⟨(B b hb).2, ?_⟩
   rcases(B b hb).1 with h|h
   ·exact .inl (Wz D.size h)
   ·exact(D.mine j b h).2
  ·rw[bh _ _ _ _ f] at hb
   exact⟨V_ (D.mine j b hb).1 e,(D.mine j b hb).2⟩
 ·by_cases f:j=id
  ·subst f;rw[aC];exact r3
  ·rw[bh _ _ _ _ f];exact D.nod j
 ·have key:∀ j b,j≠id->b∈F'->b∈φ j->False:=fun j b hj h1 h2=>by
   rcases(B b h1).1 with h|h
   ·have:=(D.mine j b h2).1;omega
   ·exact D.sep j id b hj h2 h
  intro i j b r0 hi hj
  by_cases g:i=id
  ·subst g
   rw[aC] at hi;rw[bh _ _ _ _ (Ne.symm r0)] at hj
   exact key j b (Ne.symm r0) hi hj
  ·rw[bh _ _ _ _ g] at hi
   by_cases n:j=id
   ·subst n;rw[aC] at hj;exact key i b g hj hi
   ·rw[bh _ _ _ _ n] at hj;exact D.sep i j b r0 hi hj
theorem dp.modify (D:dp c σ κ φ a w) (p:w'.os=w.os) (d:w'.tape=w.tape) (k:w'.output=w.output) (e:w'.heap.size=w.heap.size) (l:∀ b,b∉φ id->w'.heap[b]?=w.heap[b]?) (B:F'.Sublist (φ id)) (hc:mG w (own c φ) w' (own c (ap φ id F'))->lV w' (own c (ap φ id F')) κ id ch F'):dp c ⟨σ.s,ap σ.h id ch⟩ κ (ap φ id F') a w':=by
 have q:∀ b∈F',(w.heap.size<=b\/b∈φ id)/\b<w'.heap.size:=fun b hb=>⟨.inr (B.subset hb),by rw[e];exact(D.mine id b (B.subset hb)).1⟩
 have Q:=tP D oM (fun b _ hb=>l b hb) q
 refine⟨D.chg.trans ⟨p,d,k,by omega,fun b hb hA=>l b fun m=> ?_⟩,by have:=D.size;omega,D.m0,D.ntmps,D.defers,D.kok,fun i hi=>al.ext Q _ _ (D.slots i hi),fun i v hv=>al.ext Q _ _ (D.ghost i v hv),fun j=> ?_,fun j b hb=> ?_,fun j=> ?_, ?_⟩
 ·rcases(D.mine id b m).2 with h|h
  ·omega
  ·exact hA h
 ·by_cases f:j=id
  ·subst f;dsimp only;rw[aC,aC];exact hc Q
  ·dsimp only;rw[bh _ _ _ _ f,bh _ _ _ _ f]
   exact(D.chunks j).ext Q fun b hb=>l b fun h6=>D.sep j id b f hb h6
 ·by_cases f:j=id
  ·subst f;rw[aC] at hb;exact⟨(q b hb).2,(D.mine j b (B.subset hb)).2⟩
  ·rw[bh _ _ _ _ f] at hb;rw[e];exact D.mine j b hb
 ·by_cases f:j=id
  ·subst f;rw[aC];exact(D.nod j).sublist B
  ·rw[bh _ _ _ _ f];exact D.nod j
 ·have n:∀ i b,b∈ap φ id F' i->b∈φ i:=fun i b hb=>by
   by_cases g:i=id
   ·subst g;rw[aC] at hb;exact B.subset hb
   ·rwa[bh _ _ _ _ g] at hb
  exact fun i j b r0 hi hj=>D.sep i j b r0 (n i b hi) (n j b hj)
theorem dp.two (D:dp c σ κ φ a w) {g:Nat} {ch':Ch} {G G':List Nat} (U:id≠g) (r1:u.oneCell'=true) (hG:∀ b∈G,b∈φ id\/b∈φ g) (J:∀ b∈G',b∈φ id\/b∈φ g) (hn:G.Nodup) (A:G'.Nodup) (e:∀ b∈G,b∉G') (hd:bf w (own c (ap (ap φ id G) g G')) o (κ g)) (hc:mG w (own c φ) w (own c (ap (ap φ id G) g G'))->lV w (own c (ap (ap φ id G) g G')) (ap κ g u) id ch G) (f:mG w (own c φ) w (own c (ap (ap φ id G) g G'))->lV w (own c (ap (ap φ id G) g G')) (ap κ g u) g ch' G'):
  dp c ⟨bG g o σ.s,ap (ap (bK g o σ.h) id ch) g ch'⟩ (ap κ g u) (ap (ap φ id G) g G') a w:=by
 have n:∀ i b,b∈ap (ap φ id G) g G' i->∃ k,b∈φ k/\(k=i\/((k=id\/k=g)/\(i=id\/i=g))):=fun i b hb=>by
  by_cases h5:i=g
  ·subst h5;rw[aC] at hb
   rcases J b hb with h|h
   ·exact⟨id,h,.inr ⟨.inl rfl,.inr rfl⟩⟩
   ·exact⟨i,h,.inl rfl⟩
  ·rw[bh _ _ _ _ h5] at hb
   by_cases hi:i=id
   ·subst hi;rw[aC] at hb
    rcases hG b hb with h|h
    ·exact⟨i,h,.inl rfl⟩
    ·exact⟨g,h,.inr ⟨.inr rfl,.inl rfl⟩⟩
   ·rw[bh _ _ _ _ hi] at hb;exact⟨i,hb,.inl rfl⟩
 have Q:mG w (own c φ) w (own c (ap (ap φ id G) g G')):=mG.shrink fun b hb=>by
  rcases hb with h|⟨i,h⟩
  ·exact .inl h
  ·obtain⟨k,hk,_⟩:=n i b h;exact .inr ⟨k,hk⟩
 refine⟨D.chg,D.size,D.m0,D.ntmps,D.defers,fun j=> ?_,fun i hi=>ji Q hd _ _ (D.slots i hi),fun i v hv=>ji Q hd _ _ (D.ghost i v hv),fun j=> ?_,fun j b hb=> ?_,fun j=> ?_, ?_⟩
 ·by_cases hj:j=g
  ·subst hj;rw[aC];exact r1
  ·rw[bh _ _ _ _ hj];exact D.kok j
 ·by_cases X:j=g
  ·subst X;simp only[aC];exact f Q
  ·dsimp only;rw[bh _ _ _ _ X,bh _ _ _ _ X]
   by_cases hj:j=id
   ·subst hj;rw[aC,aC];exact hc Q
   ·rw[bh _ _ _ _ hj,bh _ _ _ _ hj]
    exact zb Q hd X (fun _ _=>rfl) (D.chunks j)
 ·obtain⟨k,hk,_⟩:=n j b hb;exact D.mine k b hk
 ·by_cases X:j=g
  ·subst X;rw[aC];exact A
  ·rw[bh _ _ _ _ X]
   by_cases hj:j=id
   ·subst hj;rw[aC];exact hn
   ·rw[bh _ _ _ _ hj];exact D.nod j
 ·intro i j b r0 hi hj
  obtain⟨k,hk,h1⟩:=n i b hi
  obtain⟨l,hl,h2⟩:=n j b hj
  have r2:k=l:=Classical.byContradiction fun r2=>D.sep k l b r2 hk hl
  subst r2
  have m:(i=id\/i=g)/\(j=id\/j=g):=by
   rcases h1 with rfl|⟨h1,u8⟩
   ·rcases h2 with rfl|⟨h2,d⟩
    ·exact absurd rfl r0
    ·exact⟨h2,d⟩
   ·rcases h2 with rfl|⟨h2,d⟩
    ·exact⟨u8,h1⟩
    ·exact⟨u8,d⟩
  rcases m with⟨rfl|rfl,rfl|rfl⟩
  ·exact r0 rfl
  ·rw[bh _ _ _ _ r0,aC] at hi;rw[aC] at hj;exact e b hi hj
  ·rw[aC] at hi;rw[bh _ _ _ _ (Ne.symm r0),aC] at hj;exact e b hj hi
  ·exact r0 rfl
mutual
def bH.plain:bH->Bool
 | .sh=>true
 | .sl _ ms=>bH.plains ms
 | .pt ms=>bH.plains ms
 | .mp _ _=>false
 | .bld _ _=>false
def bH.plains:List bH->Bool
 |[]=>true
 |m::ms=>bH.plain m&&bH.plains ms
end
theorem CZ {rows:List (List DV)} {xs:List Value} (ho:w.ownsRow 0 e sz v rows.length xs) (r1:∀ x∈xs,x.oneCell'=true) (W:∀ r∈rows,r.length=sz) (hl:aM w M rows.flatten xs) (hM:∀ b∈gT v,¬ M b):bf w M (.slice rows) v:=by
 unfold bf
 rcases ho.2 with⟨hk,hn⟩|⟨g,N,I,hk,hB,L,z,_,O,s⟩
 ·have:rows=[]:=Vx.1 hn
  subst this
  exact⟨none,0,hk,Vs _,fun _=>rfl,.inl rfl⟩
 ·refine⟨some ⟨g,0,none⟩,N,hk,z,by simp,.inr ⟨g,0,sz,rfl,hM g (by simp[gT,hk,vr]),(VV.1 L).1, ?_⟩⟩
  rw[bd.iff]
  refine⟨W,b4.of_row L hl r1 fun j v hj=> ?_⟩
  rw[<-s,WE] at hj
  split at hj
  ·simpa using hj
  ·cases hj
theorem gW.flat {R:List DV->List Value->List Nat->Prop} {M:Nat->Prop} {f:List Nat}:∀ {rows:List (List DV)} {xs:List Value} {G:List Nat},(∀ b∈G,b∈f)->(∀ r ys G',(∀ b∈G',b∈f)->R r ys G'->aM w M r ys)->gW R rows xs G->aM w M rows.flatten xs
 |[],xs,G,_,_,h=>by obtain⟨rfl,_⟩:=h;simp[aM]
 |r::rs,xs,G,hG,t,h=>by
  obtain⟨ys,zs,G1,G2,rfl,rfl,E,h4⟩:=h
  rw[V4]
  exact(t r ys G1 (fun b hb=>hG b (by simp[hb])) E).append (gW.flat (fun b hb=>hG b (by simp[hb])) t h4)
mutual
theorem f8.frz {M M':Nat->Prop} (hM:∀ b,M' b->M b):∀ (m:bH) (d:DV) (v:Value) (F:List Nat),m.plain=true->(∀ b∈F,¬ M' b)->f8 w M m d v F->bf w M' d v
 | .sh,d,v,F,_,B,D=>by unfold f8 at D;exact D.2.ext (mG.shrink hM)
 | .sl e ms,d,v,F,Y,B,D=>by
  unfold f8 at D
  obtain⟨rows,xs,G,rfl,ho,h1,h2,E,rfl⟩:=D
  refine CZ ho h1 h2 ?_ (fun b hb=>B b (by simp[hb]))
  exact E.flat (f:=G) (fun b hb=>hb) fun r ys G' hG D=>f2.frz hM ms r ys G' (by simpa[bH.plain] using Y) (fun b hb=>B b (by simp[hG b hb])) D
 | .pt ms,d,v,F,Y,B,D=>by
  unfold f8 at D
  obtain⟨cs,b,T,vs,G,rfl,rfl,hh,h1,h2,rfl⟩:=D
  have hl:=f2.frz hM ms cs vs G (by simpa[bH.plain] using Y) (fun b hb=>B b (by simp[hb])) h2
  unfold bf
  exact⟨b,0,rfl,B b oS,(VV.1 hh).1,b4.of_row hh hl h1 oS⟩
 | .mp _ _,d,v,F,Y,_,_=>by simp[bH.plain] at Y
 | .bld _ _,d,v,F,Y,_,_=>by simp[bH.plain] at Y
theorem f2.frz {M M':Nat->Prop} (hM:∀ b,M' b->M b):∀ (ms:List bH) (J:List DV) (vs:List Value) (F:List Nat),bH.plains ms=true->(∀ b∈F,¬ M' b)->f2 w M ms J vs F->aM w M' J vs
 |[],J,vs,F,_,_,D=>by unfold f2 at D;obtain⟨rfl,rfl,_⟩:=D;unfold aM;rfl
 |m::ms,J,vs,F,Y,B,D=>by
  unfold f2 at D
  obtain⟨d,i,v,A,N,R,rfl,rfl,rfl,E,h4⟩:=D
  simp only[bH.plains,Vj] at Y
  unfold aM
  exact⟨v,A,rfl,f8.frz hM m d v N Y.1 (fun b hb=>B b (by simp[hb])) E,f2.frz hM ms i A R Y.2 (fun b hb=>B b (by simp[hb])) h4⟩
end
def SV.frz:SV->Option DV
 | .own m v=>if m.plain then some v else none
 | .d v=>some v
 | .nils=>some (.slice [])
 | .lit sz n cs=>SV.toDV (.lit sz n cs)
 |_=>none
def SV.frzs:List SV->Option (List DV)
 |[]=>some []
 |c::cs=>match SV.frz c,SV.frzs cs with|some x,some xs=>some (x::xs)|_,_=>none
def SV.frzR:List (List SV)->Option (List (List DV))
 |[]=>some []
 |r::rs=>match SV.frzs r,SV.frzR rs with|some x,some xs=>some (x::xs)|_,_=>none
theorem rg (hM:∀ b,M' b->M b) {x:SV} {d:DV} (B:∀ b∈F,¬ M' b) (D:aT w M κ x u F) (h:x.frz=some d):bf w M' d u:=by
 cases x with
 |own m d'=>
  simp only[SV.frz] at h
  split at h
  ·rename_i Y
   simp only[Vi] at h;subst h
   simp only[aT] at D
   exact D.frz hM m _ u F Y B
  ·cases h
 |d v=>exact(al.toDV (.d v) _ _ (by simp only[aT] at D;exact D.2) (by simpa only[SV.frz,SV.toDV] using h)).ext (mG.shrink hM)
 |nils=>exact(al.toDV .nils _ _ (by simp only[aT] at D;exact D.2) (by simpa only[SV.frz,SV.toDV] using h)).ext (mG.shrink hM)
 |lit sz n cs=>exact(al.toDV (.lit sz n cs) _ _ (by simp only[aT] at D;exact D.2) (by simpa only[SV.frz] using h)).ext (mG.shrink hM)
 |_=>simp[SV.frz] at h
theorem C0 {M M':Nat->Prop} (hM:∀ b,M' b->M b):∀ {cs:List SV} {X:List Value} {F:List Nat} {J:List DV},(∀ b∈F,¬ M' b)->az w M κ cs X F->SV.frzs cs=some J->aM w M' J X
 |[],X,F,J,B,D,h=>by
  simp only[SV.frzs,Vi] at h;subst h
  simp only[az] at D;unfold aM;exact D.1
 |c::cs,X,F,J,B,D,h=>by
  simp only[SV.frzs] at h
  split at h
  ·rename_i x xs hx T
   simp only[Vi] at h;subst h
   simp only[az] at D
   obtain⟨u,g,N,R,rfl,rfl,h1,h2⟩:=D
   unfold aM
   exact⟨u,g,rfl,rg hM (fun b hb=>B b (by simp[hb])) h1 hx,C0 hM (fun b hb=>B b (by simp[hb])) h2 T⟩
  ·cases h
theorem Be:∀ (xs ys:List SV),SV.frzs (xs++ys)=match SV.frzs xs,SV.frzs ys with|some a,some b=>some (a++b)|_,_=>none
 |[],ys=>by simp only[VC,SV.frzs];cases SV.frzs ys<;>rfl
 |x::xs,ys=>by
  simp only[VG,SV.frzs,Be xs ys]
  cases SV.frz x<;>cases SV.frzs xs<;>cases SV.frzs ys<;>rfl
theorem Bf:∀ {xs:List SV} {J:List DV},SV.frzs xs=some J->J.length=xs.length
 |[],J,h=>by simp only[SV.frzs,Vi] at h;subst h;rfl
 |x::xs,J,h=>by
  simp only[SV.frzs] at h
  split at h
  ·rename_i y ys hy k
   simp only[Vi] at h;subst h
   simp[Bf k]
  ·cases h
theorem Fi:∀ {rows:List (List SV)} {J:List (List DV)},SV.frzR rows=some J->SV.frzs rows.flatten=some J.flatten/\J.length=rows.length/\∀ sz,(∀ r∈rows,r.length=sz)->∀ r∈J,r.length=sz
 |[],J,h=>by simp only[SV.frzR,Vi] at h;subst h;simp[SV.frzs]
 |r::rows,J,h=>by
  simp only[SV.frzR] at h
  split at h
  ·rename_i x xs hx T
   simp only[Vi] at h;subst h
   obtain⟨h1,h2,E⟩:=Fi T
   refine⟨by simp only[V4,Be,hx,h1],by simp[h2],fun sz W q hq=> ?_⟩
   simp only[VK] at hq
   rcases hq with rfl|hq
   ·rw[Bf hx];exact W r oS
   ·exact E sz (fun r D=>W r (by simp[D])) q hq
  ·cases h
theorem Gr (hM:∀ b,M' b->M b) (B:∀ b∈F,¬ M' b) (D:lV w M κ id (.vec e sz rows) F) (h:SV.frzR rows=some J):bf w M' (.slice J) (κ id):=by
 obtain⟨xs,G,h1,h2,E,h4,rfl⟩:=D
 obtain⟨k1,k2,k3⟩:=Fi h
 exact CZ (by rw[k2];exact h1) h2 (k3 sz E) (C0 hM (fun b hb=>B b (by simp[hb])) h4 k1) (fun b hb=>B b (by simp[hb]))
theorem dp.freeze (D:dp c σ κ φ a w) (hv:σ.h id= .vec e sz rows) (C:SV.frzR rows=some J):dp c (σ.swap id (.slice J) .dead) (ap κ id (.pointer none)) (ap φ id []) a w:=by
 refine D.swap rfl rfl rfl rfl (Vs _) (fun _ _ _=>rfl) oS oS ?_ rfl
 have H:=D.chunks id
 rw[hv] at H
 refine Gr (M:=own c φ) (fun b hb=> ?_) (fun b hb=> ?_) H C
 ·rcases hb with h|⟨j,h⟩
  ·exact .inl h
  ·by_cases f:j=id
   ·subst f;rw[aC] at h;simp at h
   ·rw[bh _ _ _ _ f] at h;exact .inr ⟨j,h⟩
 ·rintro(h|⟨j,h⟩)
  ·have h1:=D.m0 b h
   have h2:=(D.mine id b hb).2
   rcases h2 with h2|h2
   ·omega
   ·exact h1.2 h2
  ·by_cases f:j=id
   ·subst f;rw[aC] at h;simp at h
   ·rw[bh _ _ _ _ f] at h;exact D.sep j id b f h hb
theorem dp.drop (D:dp c σ κ φ a w) (id:Nat):dp c ⟨σ.s,ap σ.h id .dead⟩ κ (ap φ id []) a w:=
 D.modify rfl rfl rfl rfl (fun _ _=>rfl) (List.nil_sublist _) (fun _=>rfl)
theorem dp.vecnil (D:dp c σ κ φ a w) {d:Nat} (hs:σ.s d= .nils):dp c {σ.swap id .any (.vec e sz []) with s:=ap (bG id .any σ.s) d (.vec id)} (ap κ id (.slice none 0 0)) (ap φ id []) a w:=by
 have h1:dp c (σ.swap id .any (.vec e sz [])) (ap κ id (.slice none 0 0)) (ap φ id []) a w:=by
  refine D.swap rfl rfl rfl rfl (Vs _) (fun _ _ _=>rfl) oS oS (by unfold bf;trivial) ?_
  simp only[lV]
  exact⟨[],[],by rw[aC];exact World.ownsRow_nil w 0 e sz,by simp,by simp,by simp[az],by rw[aC];rfl⟩
 have key:∀ i v,al w (own c φ) κ (σ.s i) v->al w (own c (ap φ id [])) (ap κ id (.slice none 0 0)) ((σ.swap id .any (.vec e sz [])).s i) v->al w (own c (ap φ id [])) (ap κ id (.slice none 0 0)) (ap (bG id .any σ.s) d (.vec id) i) v:=fun i v h0 hv=>by
  by_cases h5:i=d
  ·subst h5
   rw[hs] at h0
   simp only[al] at h0
   simp only[aC,al]
   exact h0
  ·simp only[bh _ _ _ _ h5]
   exact hv
 exact⟨h1.chg,h1.size,h1.m0,h1.ntmps,h1.defers,h1.kok,fun i hi=>key i _ (D.slots i hi) (h1.slots i hi),fun i v hv=>key _ v (D.ghost i v hv) (h1.ghost i v hv),h1.chunks,h1.mine,h1.nod,h1.sep⟩
end
