/-
  My text.
-/
import Derived.Test.YteaolfcegaidpaaGreatDoorSZEngG
namespace Go.Proofs.YteaolfcegaidpaaGreatDoor
set_option linter.unusedSimpArgs false
set_option linter.unusedVariables false
open Go.RowKit
variable {F J:List Nat} {M M':Nat->Prop} {O:List (List DV)} {ch:Ch} {e id:Nat} {o:DV} {rows:List (List SV)} {sz:Nat} {u v:Value} {w':World}
def Dh (id:Nat):List Nat->Bool
 |[]=>false
 |i::l=>if i=id then true else Dh id l
theorem Fo {id:Nat}:∀ {l:List Nat},Dh id l=false->∀ i∈l,i≠id
 |j::l,h,i,hi=>by
  unfold Dh at h
  split at h
  ·cases h
  ·rename_i hj
   rcases S9.1 hi with rfl|hi
   ·exact hj
   ·exact Fo h i hi
def L8 (f:FuncId) (l:List Nat):Bool->SV
 |true=> .d .any
 |false=> .clo f l
mutual
def fS (id:Nat) (o:DV):SV->SV
 | .d v=> .d v
 | .nils=> .nils
 | .lit sz n cs=> .lit sz n (ee id o cs)
 | .agg cs=> .agg (ee id o cs)
 | .tup cs=> .tup (ee id o cs)
 | .ref i off=>if i=id then .d .any else .ref i off
 | .vec i=>if i=id then .d o else .vec i
 | .vref i sz k off=>if i=id then .d .any else .vref i sz k off
 | .mp i=>if i=id then .d .any else .mp i
 | .clo f l=>L8 f l (Dh id l)
 | .own m v=> .own m v
def ee (id:Nat) (o:DV):List SV->List SV
 |[]=>[]
 |c::cs=>fS id o c::ee id o cs
end
def jG (id:Nat) (o:DV):List (List SV)->List (List SV)
 |[]=>[]
 |r::rs=>ee id o r::jG id o rs
def Ck (id:Nat) (o:DV):List (DV×SV)->List (DV×SV)
 |[]=>[]
 |(k,c)::kv=>(k,fS id o c)::Ck id o kv
def A3 (id:Nat) (o:DV):Ch->Ch
 | .dead=> .dead
 | .box cs=> .box (ee id o cs)
 | .vec e sz rows=> .vec e sz (jG id o rows)
 | .map kk kv=> .map kk (Ck id o kv)
 | .bld T e bs=> .bld T e bs
def eC (id:Nat) (o:DV) (s:Nat->SV):Nat->SV:=fun i=>fS id o (s i)
def hT (id:Nat) (o:DV) (h:Nat->Ch):Nat->Ch:=fun i=>A3 id o (h i)
def St.swap (σ:St) (id:Nat) (o:DV) (c:Ch):St:=⟨eC id o σ.s,aD (hT id o σ.h) id c⟩
theorem wQ (id:Nat) (o:DV):∀ (xs ys:List SV),ee id o (xs++ys)=ee id o xs++ee id o ys
 |[],ys=>rfl
 |x::xs,ys=>by simp[ee,wQ id o xs ys]
theorem pO (id:Nat) (o:DV):∀ (xs:List SV),(ee id o xs).length=xs.length
 |[]=>rfl
 |x::xs=>by simp[ee,pO id o xs]
theorem lE (id:Nat) (o:DV):∀ (rs:List (List SV)),(jG id o rs).flatten=ee id o rs.flatten
 |[]=>rfl
 |r::rs=>by simp[jG,wQ,lE id o rs]
theorem kS (id:Nat) (o:DV):∀ (rs:List (List SV)),(jG id o rs).length=rs.length
 |[]=>rfl
 |r::rs=>by simp[jG,kS id o rs]
theorem uF (id:Nat) (o:DV) (sz:Nat):∀ (rs:List (List SV)),(∀ r∈rs,r.length=sz)->∀ r∈jG id o rs,r.length=sz
 |[],_,r,hr=>by simp[jG] at hr
 |q::rs,h,r,hr=>by
  simp only[jG,S9] at hr
  rcases hr with rfl|hr
  ·rw[pO];exact h q oS
  ·exact uF id o sz rs (fun r hr=>h r (by simp[hr])) r hr
section
variable {w w':World} {M M':Nat->Prop} {κ:Nat->Value} {id:Nat} {o:DV} {v:Value}
mutual
theorem gz (h:lA w M w' M') (hd:ba w' M' o (κ id)):∀ (x:SV) (u:Value),ah w M κ x u->ah w' M' (aD κ id v) (fS id o x) u
 | .d x,u,hr=>by simp only[ah,fS] at *;exact hr.ext h
 | .nils,u,hr=>by simp only[ah,fS] at *;exact hr
 | .lit sz n cs,u,hr=>by
  simp only[ah,fS] at *
  obtain⟨b,vs,h1,h2,E,h4,h5,h6,h7⟩:=hr
  exact⟨b,vs,h1,(h.keep b E h2).2,Tt E h.size,h4,h5,fun j v hj=>by rw[h.cell E h2];exact h6 j v hj,uG h hd cs vs h7⟩
 | .agg cs,u,hr=>by
  simp only[ah,fS] at *
  obtain⟨vs,h1,h2,E⟩:=hr
  exact⟨vs,h1,h2,uG h hd cs vs E⟩
 | .tup cs,u,hr=>by
  simp only[ah,fS] at *
  obtain⟨vs,h1,E⟩:=hr
  exact⟨vs,h1,uG h hd cs vs E⟩
 | .ref i off,u,hr=>by
  simp only[fS]
  split
  ·simp[ah,ba]
  ·rename_i A
   simp only[ah] at *
   rw[bv _ _ _ _ A];exact hr
 | .vec i,u,hr=>by
  simp only[fS]
  split
  ·rename_i J
   subst J
   simp only[ah] at *;subst hr;exact hd
  ·rename_i A
   simp only[ah] at *
   rw[bv _ _ _ _ A];exact hr
 | .vref i sz k off,u,hr=>by
  simp only[fS]
  split
  ·simp[ah,ba]
  ·rename_i A
   simp only[ah] at *
   rw[bv _ _ _ _ A];exact hr
 | .mp i,u,hr=>by
  simp only[fS]
  split
  ·simp[ah,ba]
  ·rename_i A
   simp only[ah] at *
   rw[bv _ _ _ _ A];exact hr
 | .clo f l,u,hr=>by
  simp only[fS]
  cases hc:Dh id l with
  |true=>simp[L8,ah,ba]
  |false=>
   simp only[L8,ah] at *
   have hk:∀ i∈l,aD κ id v i=κ i:=fun i hi=>bv _ _ _ _ (Fo hc i hi)
   refine⟨by rw[hr.1,T3 hk],fun i hi=>by rw[hk i hi];exact hr.2 i hi⟩
 | .own _ _,u,hr=>by simp only[ah] at hr
theorem uG (h:lA w M w' M') (hd:ba w' M' o (κ id)):∀ (cs:List SV) (us:List Value),an w M κ cs us->an w' M' (aD κ id v) (ee id o cs) us
 |[],us,hr=>by simp only[an,ee] at *;exact hr
 |c::cs,us,hr=>by
  simp only[an,ee] at *
  obtain⟨u,g,h1,h2,E⟩:=hr
  exact⟨u,g,h1,gz h hd c u h2,uG h hd cs g E⟩
end
mutual
theorem L9 (h:lA w M w' M') (hd:ba w' M' o (κ id)):∀ (x:SV) (u:Value) (F:List Nat),(∀ b∈F,w'.heap[b]?=w.heap[b]?)->aQ w M κ x u F->aQ w' M' (aD κ id v) (fS id o x) u F
 | .own m d,u,F,hk,hr=>by simp only[aQ,fS] at *;exact eR.ext h m d u F hk hr
 | .agg cs,u,F,hk,hr=>by
  simp only[aQ,fS] at *
  obtain⟨vs,h1,h2,E⟩:=hr
  exact⟨vs,h1,h2,zV h hd cs vs F hk E⟩
 | .tup cs,u,F,hk,hr=>by
  simp only[aQ,fS] at *
  obtain⟨vs,h1,E⟩:=hr
  exact⟨vs,h1,zV h hd cs vs F hk E⟩
 | .d x,u,F,hk,hr=>by simp only[aQ] at hr;obtain⟨rfl,hr⟩:=hr;exact aQ.of_S _ _ (gz h hd _ _ hr)
 | .nils,u,F,hk,hr=>by simp only[aQ] at hr;obtain⟨rfl,hr⟩:=hr;exact aQ.of_S _ _ (gz h hd _ _ hr)
 | .lit _ _ _,u,F,hk,hr=>by simp only[aQ] at hr;obtain⟨rfl,hr⟩:=hr;exact aQ.of_S _ _ (gz h hd _ _ hr)
 | .ref _ _,u,F,hk,hr=>by simp only[aQ] at hr;obtain⟨rfl,hr⟩:=hr;exact aQ.of_S _ _ (gz h hd _ _ hr)
 | .vec _,u,F,hk,hr=>by simp only[aQ] at hr;obtain⟨rfl,hr⟩:=hr;exact aQ.of_S _ _ (gz h hd _ _ hr)
 | .vref _ _ _ _,u,F,hk,hr=>by simp only[aQ] at hr;obtain⟨rfl,hr⟩:=hr;exact aQ.of_S _ _ (gz h hd _ _ hr)
 | .mp _,u,F,hk,hr=>by simp only[aQ] at hr;obtain⟨rfl,hr⟩:=hr;exact aQ.of_S _ _ (gz h hd _ _ hr)
 | .clo _ _,u,F,hk,hr=>by simp only[aQ] at hr;obtain⟨rfl,hr⟩:=hr;exact aQ.of_S _ _ (gz h hd _ _ hr)
theorem zV (h:lA w M w' M') (hd:ba w' M' o (κ id)):∀ (cs:List SV) (us:List Value) (F:List Nat),(∀ b∈F,w'.heap[b]?=w.heap[b]?)->ar w M κ cs us F->ar w' M' (aD κ id v) (ee id o cs) us F
 |[],us,F,hk,hr=>by simp only[ar,ee] at *;exact hr
 |c::cs,us,F,hk,hr=>by
  simp only[ar,ee] at *
  obtain⟨u,g,z,I,h1,rfl,h2,E⟩:=hr
  exact⟨u,g,z,I,h1,rfl,L9 h hd c u z (fun b hb=>hk b (by simp[hb])) h2,zV h hd cs g I (fun b hb=>hk b (by simp[hb])) E⟩
end
theorem Di (h:lA w M w' M') (hd:ba w' M' o (κ id)) {kk:KK}:∀ (kv:List (DV×SV)) (es:List MapEntry) (F:List Nat),(∀ b∈F,w'.heap[b]?=w.heap[b]?)->bH w M κ kk kv es F->bH w' M' (aD κ id v) kk (Ck id o kv) es F
 |[],es,F,hk,hr=>by simp only[bH,Ck] at *;exact hr
 |(k,c)::kv,es,F,hk,hr=>by
  simp only[bH,Ck] at *
  obtain⟨e,T,z,I,h1,rfl,h2,E,h4,h5⟩:=hr
  exact⟨e,T,z,I,h1,rfl,h2,E,L9 h hd c _ z (fun b hb=>hk b (by simp[hb])) h4,Di h hd kv T I (fun b hb=>hk b (by simp[hb])) h5⟩
theorem zW (h:lA w M w' M') (hd:ba w' M' o (κ id)) {j:Nat} (hj:j≠id) {c:Ch} (hk:∀ b∈F,w'.heap[b]?=w.heap[b]?) (hc:kK w M κ j c F):kK w' M' (aD κ id v) j (A3 id o c) F:=by
 have d:aD κ id v j=κ j:=bv _ _ _ _ hj
 cases c with
 |dead=>exact hc
 |box cs=>
  obtain⟨b,T,vs,G,h1,h2,E,h4,rfl⟩:=hc
  exact⟨b,T,vs,G,by rw[d];exact h1,by rw[hk b oS];exact h2,E,zV h hd cs vs G (fun b hb=>hk b (by simp[hb])) h4,rfl⟩
 |vec e sz rows=>
  obtain⟨xs,G,h1,h2,E,h4,rfl⟩:=hc
  refine⟨xs,G,by rw[d,kS];exact wM (fun b hb=>hk b (by simp[hb])) h1,h2,uF id o sz rows E, ?_,by rw[d]⟩
  rw[lE]
  exact zV h hd _ xs G (fun b hb=>hk b (by simp[hb])) h4
 |map kk kv=>
  obtain⟨r,es,C,G,h1,h2,hB,E,rfl⟩:=hc
  exact⟨r,es,C,G,by rw[d];exact h1,by rw[hk r oS];exact h2,hB,Di h hd kv es G (fun b hb=>hk b (by simp[hb])) E,rfl⟩
 |bld T e bs=>show BJ w' T e bs (aD κ id v j) F;rw[d];exact BJ.ext hk hc
end
section
variable {P:Program} {c:Cx} {σ:St} {κ:Nat->Value} {φ:Nat->List Nat} {a:Act} {w:World}
theorem uH (hr:cH c σ κ φ a w) (e:w.heap.size<=w'.heap.size) (m:∀ b,b<w.heap.size->b∉φ id->w'.heap[b]?=w.heap[b]?) (Q:∀ b∈J,(w.heap.size<=b\/b∈φ id)/\b<w'.heap.size):
  lA w (own c φ) w' (own c (aD φ id J)):=by
 refine⟨e,fun b hb Z=>⟨m b hb fun h1=>Z (.inr ⟨id,h1⟩), ?_⟩⟩
 rintro(h0|⟨j,hj⟩)
 ·exact Z (.inl h0)
 ·by_cases f:j=id
  ·subst f
   rw[au] at hj
   rcases(Q b hj).1 with h1|h1
   ·omega
   ·exact Z (.inr ⟨j,h1⟩)
  ·rw[bv _ _ _ _ f] at hj
   exact Z (.inr ⟨j,hj⟩)
theorem cH.swap (hr:cH c σ κ φ a w) (s:v.oneCell'=true) (p:w'.os=w.os) (g:w'.tape=w.tape) (d:w'.output=w.output) (e:w.heap.size<=w'.heap.size) (m:∀ b,b<w.heap.size->b∉φ id->w'.heap[b]?=w.heap[b]?) (Q:∀ b∈J,(w.heap.size<=b\/b∈φ id)/\b<w'.heap.size) (r4:J.Nodup) (hd:ba w' (own c (aD φ id J)) o (κ id)) (hc:kK w' (own c (aD φ id J)) (aD κ id v) id ch J):cH c (σ.swap id o ch) (aD κ id v) (aD φ id J) a w':=by
 have N:=uH hr e m Q
 refine⟨hr.chg.trans ⟨p,g,d,e,fun b hb E=>m b (Tt hb hr.size) fun l=> ?_⟩,TT hr.size e,hr.m0,hr.ntmps,hr.defers,fun j=> ?_,fun i hi=>gz N hd _ _ (hr.slots i hi),fun i v hv=>gz N hd _ _ (hr.ghost i v hv),fun j=> ?_,fun j b hb=> ?_,fun j=> ?_, ?_⟩
 ·rcases(hr.mine id b l).2 with h|h
  ·omega
  ·exact E h
 ·by_cases f:j=id
  ·subst f;rw[au];exact s
  ·rw[bv _ _ _ _ f];exact hr.kok j
 ·by_cases f:j=id
  ·subst f
   rw[show(σ.swap j o ch).h j=ch by simp[St.swap,au],au];exact hc
  ·rw[show(σ.swap id o ch).h j=A3 id o (σ.h j) by simp[St.swap,bv _ _ _ _ f,hT],bv _ _ _ _ f]
   exact zW N hd f (fun b hb=>m b (hr.mine j b hb).1 fun h6=>hr.sep j id b f hb h6) (hr.chunks j)
 ·by_cases f:j=id
  ·subst f
   rw[au] at hb
   refine⟨(Q b hb).2, ?_⟩
   rcases(Q b hb).1 with h|h
   ·exact .inl (TT hr.size h)
   ·exact(hr.mine j b h).2
  ·rw[bv _ _ _ _ f] at hb
   exact⟨Tt (hr.mine j b hb).1 e,(hr.mine j b hb).2⟩
 ·by_cases f:j=id
  ·subst f;rw[au];exact r4
  ·rw[bv _ _ _ _ f];exact hr.nod j
 ·have key:∀ j b,j≠id->b∈J->b∈φ j->False:=fun j b hj h1 h2=>by
   rcases(Q b h1).1 with h|h
   ·have:=(hr.mine j b h2).1;omega
   ·exact hr.sep j id b hj h2 h
  intro i j b V hi hj
  by_cases k:i=id
  ·subst k
   rw[au] at hi;rw[bv _ _ _ _ (Ne.symm V)] at hj
   exact key j b (Ne.symm V) hi hj
  ·rw[bv _ _ _ _ k] at hi
   by_cases n:j=id
   ·subst n;rw[au] at hj;exact key i b k hj hi
   ·rw[bv _ _ _ _ n] at hj;exact hr.sep i j b V hi hj
theorem cH.modify (hr:cH c σ κ φ a w) (p:w'.os=w.os) (g:w'.tape=w.tape) (d:w'.output=w.output) (e:w'.heap.size=w.heap.size) (m:∀ b,b∉φ id->w'.heap[b]?=w.heap[b]?) (Q:J.Sublist (φ id)) (hc:lA w (own c φ) w' (own c (aD φ id J))->kK w' (own c (aD φ id J)) κ id ch J):cH c ⟨σ.s,aD σ.h id ch⟩ κ (aD φ id J) a w':=by
 have q:∀ b∈J,(w.heap.size<=b\/b∈φ id)/\b<w'.heap.size:=fun b hb=>⟨.inr (Q.subset hb),by rw[e];exact(hr.mine id b (Q.subset hb)).1⟩
 have N:=uH hr oM (fun b _ hb=>m b hb) q
 refine⟨hr.chg.trans ⟨p,g,d,by omega,fun b hb E=>m b fun l=> ?_⟩,by have:=hr.size;omega,hr.m0,hr.ntmps,hr.defers,hr.kok,fun i hi=>ah.ext N _ _ (hr.slots i hi),fun i v hv=>ah.ext N _ _ (hr.ghost i v hv),fun j=> ?_,fun j b hb=> ?_,fun j=> ?_, ?_⟩
 ·rcases(hr.mine id b l).2 with h|h
  ·omega
  ·exact E h
 ·by_cases f:j=id
  ·subst f;dsimp only;rw[au,au];exact hc N
  ·dsimp only;rw[bv _ _ _ _ f,bv _ _ _ _ f]
   exact(hr.chunks j).ext N fun b hb=>m b fun h6=>hr.sep j id b f hb h6
 ·by_cases f:j=id
  ·subst f;rw[au] at hb;exact⟨(q b hb).2,(hr.mine j b (Q.subset hb)).2⟩
  ·rw[bv _ _ _ _ f] at hb;rw[e];exact hr.mine j b hb
 ·by_cases f:j=id
  ·subst f;rw[au];exact(hr.nod j).sublist Q
  ·rw[bv _ _ _ _ f];exact hr.nod j
 ·have n:∀ i b,b∈aD φ id J i->b∈φ i:=fun i b hb=>by
   by_cases k:i=id
   ·subst k;rw[au] at hb;exact Q.subset hb
   ·rwa[bv _ _ _ _ k] at hb
  exact fun i j b V hi hj=>hr.sep i j b V (n i b hi) (n j b hj)
theorem cH.two (hr:cH c σ κ φ a w) {g:Nat} {ch':Ch} {G G':List Nat} (A:id≠g) (s:u.oneCell'=true) (t:∀ b∈G,b∈φ id\/b∈φ g) (O:∀ b∈G',b∈φ id\/b∈φ g) (hn:G.Nodup) (C:G'.Nodup) (e:∀ b∈G,b∉G') (hd:ba w (own c (aD (aD φ id G) g G')) o (κ g)) (hc:lA w (own c φ) w (own c (aD (aD φ id G) g G'))->kK w (own c (aD (aD φ id G) g G')) (aD κ g u) id ch G) (f:lA w (own c φ) w (own c (aD (aD φ id G) g G'))->kK w (own c (aD (aD φ id G) g G')) (aD κ g u) g ch' G'):
  cH c ⟨eC g o σ.s,aD (aD (hT g o σ.h) id ch) g ch'⟩ (aD κ g u) (aD (aD φ id G) g G') a w:=by
 have n:∀ i b,b∈aD (aD φ id G) g G' i->∃ k,b∈φ k/\(k=i\/((k=id\/k=g)/\(i=id\/i=g))):=fun i b hb=>by
  by_cases h5:i=g
  ·subst h5;rw[au] at hb
   rcases O b hb with h|h
   ·exact⟨id,h,.inr ⟨.inl rfl,.inr rfl⟩⟩
   ·exact⟨i,h,.inl rfl⟩
  ·rw[bv _ _ _ _ h5] at hb
   by_cases hi:i=id
   ·subst hi;rw[au] at hb
    rcases t b hb with h|h
    ·exact⟨i,h,.inl rfl⟩
    ·exact⟨g,h,.inr ⟨.inr rfl,.inl rfl⟩⟩
   ·rw[bv _ _ _ _ hi] at hb;exact⟨i,hb,.inl rfl⟩
 have N:lA w (own c φ) w (own c (aD (aD φ id G) g G')):=lA.shrink fun b hb=>by
  rcases hb with h|⟨i,h⟩
  ·exact .inl h
  ·obtain⟨k,hk,_⟩:=n i b h;exact .inr ⟨k,hk⟩
 refine⟨hr.chg,hr.size,hr.m0,hr.ntmps,hr.defers,fun j=> ?_,fun i hi=>gz N hd _ _ (hr.slots i hi),fun i v hv=>gz N hd _ _ (hr.ghost i v hv),fun j=> ?_,fun j b hb=> ?_,fun j=> ?_, ?_⟩
 ·by_cases hj:j=g
  ·subst hj;rw[au];exact s
  ·rw[bv _ _ _ _ hj];exact hr.kok j
 ·by_cases F:j=g
  ·subst F;simp only[au];exact f N
  ·dsimp only;rw[bv _ _ _ _ F,bv _ _ _ _ F]
   by_cases hj:j=id
   ·subst hj;rw[au,au];exact hc N
   ·rw[bv _ _ _ _ hj,bv _ _ _ _ hj]
    exact zW N hd F (fun _ _=>rfl) (hr.chunks j)
 ·obtain⟨k,hk,_⟩:=n j b hb;exact hr.mine k b hk
 ·by_cases F:j=g
  ·subst F;rw[au];exact C
  ·rw[bv _ _ _ _ F]
   by_cases hj:j=id
   ·subst hj;rw[au];exact hn
   ·rw[bv _ _ _ _ hj];exact hr.nod j
 ·intro i j b V hi hj
  obtain⟨k,hk,h1⟩:=n i b hi
  obtain⟨l,hl,h2⟩:=n j b hj
  have q:k=l:=Classical.byContradiction fun q=>hr.sep k l b q hk hl
  subst q
  have m:(i=id\/i=g)/\(j=id\/j=g):=by
   rcases h1 with rfl|⟨h1,s9⟩
   ·rcases h2 with rfl|⟨h2,d⟩
    ·exact absurd rfl V
    ·exact⟨h2,d⟩
   ·rcases h2 with rfl|⟨h2,d⟩
    ·exact⟨s9,h1⟩
    ·exact⟨s9,d⟩
  rcases m with⟨rfl|rfl,rfl|rfl⟩
  ·exact V rfl
  ·rw[bv _ _ _ _ V,au] at hi;rw[au] at hj;exact e b hi hj
  ·rw[au] at hi;rw[bv _ _ _ _ (Ne.symm V),au] at hj;exact e b hj hi
  ·exact V rfl
mutual
def cO.plain:cO->Bool
 | .sh=>true
 | .sl _ ms=>cO.plains ms
 | .pt ms=>cO.plains ms
 | .mp _ _=>false
 | .bld _ _=>false
def cO.plains:List cO->Bool
 |[]=>true
 |m::ms=>cO.plain m&&cO.plains ms
end
theorem Dj {rows:List (List DV)} {xs:List Value} (ho:w.ownsRow 0 e sz v rows.length xs) (s:∀ x∈xs,x.oneCell'=true) (R:∀ r∈rows,r.length=sz) (hl:aN w M rows.flatten xs) (hM:∀ b∈hP v,¬ M b):ba w M (.slice rows) v:=by
 unfold ba
 rcases ho.2 with⟨hk,hn⟩|⟨g,D,B,hk,hB,hg,m,_,Z,H⟩
 ·have:rows=[]:=Te.1 hn
  subst this
  exact⟨none,0,hk,S0 _,fun _=>rfl,.inl rfl⟩
 ·refine⟨some ⟨g,0,none⟩,D,hk,m,by simp,.inr ⟨g,0,sz,rfl,hM g (by simp[hP,hk,yj]),(Ty.1 hg).1, ?_⟩⟩
  rw[bi.iff]
  refine⟨R,b4.of_row hg hl s fun j v hj=> ?_⟩
  rw[<-H,T5] at hj
  split at hj
  ·simpa using hj
  ·cases hj
theorem fz.flat {R:List DV->List Value->List Nat->Prop} {M:Nat->Prop} {f:List Nat}:∀ {rows:List (List DV)} {xs:List Value} {G:List Nat},(∀ b∈G,b∈f)->(∀ r ys G',(∀ b∈G',b∈f)->R r ys G'->aN w M r ys)->fz R rows xs G->aN w M rows.flatten xs
 |[],xs,G,_,_,h=>by obtain⟨rfl,_⟩:=h;simp[aN]
 |r::rs,xs,G,t,z,h=>by
  obtain⟨ys,zs,G1,G2,rfl,rfl,E,h4⟩:=h
  rw[TB]
  exact(z r ys G1 (fun b hb=>t b (by simp[hb])) E).append (fz.flat (fun b hb=>t b (by simp[hb])) z h4)
mutual
theorem eR.frz {M M':Nat->Prop} (hM:∀ b,M' b->M b):∀ (m:cO) (d:DV) (v:Value) (F:List Nat),m.plain=true->(∀ b∈F,¬ M' b)->eR w M m d v F->ba w M' d v
 | .sh,d,v,F,_,Q,hr=>by unfold eR at hr;exact hr.2.ext (lA.shrink hM)
 | .sl e ms,d,v,F,hp,Q,hr=>by
  unfold eR at hr
  obtain⟨rows,xs,G,rfl,ho,h1,h2,E,rfl⟩:=hr
  refine Dj ho h1 h2 ?_ (fun b hb=>Q b (by simp[hb]))
  exact E.flat (f:=G) (fun b hb=>hb) fun r ys G' t hr=>ex.frz hM ms r ys G' (by simpa[cO.plain] using hp) (fun b hb=>Q b (by simp[t b hb])) hr
 | .pt ms,d,v,F,hp,Q,hr=>by
  unfold eR at hr
  obtain⟨cs,b,T,vs,G,rfl,rfl,hh,h1,h2,rfl⟩:=hr
  have hl:=ex.frz hM ms cs vs G (by simpa[cO.plain] using hp) (fun b hb=>Q b (by simp[hb])) h2
  unfold ba
  exact⟨b,0,rfl,Q b oS,(Ty.1 hh).1,b4.of_row hh hl h1 oS⟩
 | .mp _ _,d,v,F,hp,_,_=>by simp[cO.plain] at hp
 | .bld _ _,d,v,F,hp,_,_=>by simp[cO.plain] at hp
theorem ex.frz {M M':Nat->Prop} (hM:∀ b,M' b->M b):∀ (ms:List cO) (O:List DV) (vs:List Value) (F:List Nat),cO.plains ms=true->(∀ b∈F,¬ M' b)->ex w M ms O vs F->aN w M' O vs
 |[],O,vs,F,_,_,hr=>by unfold ex at hr;obtain⟨rfl,rfl,_⟩:=hr;unfold aN;rfl
 |m::ms,O,vs,F,hp,Q,hr=>by
  unfold ex at hr
  obtain⟨d,i,v,A,z,I,rfl,rfl,rfl,E,h4⟩:=hr
  simp only[cO.plains,SR] at hp
  unfold aN
  exact⟨v,A,rfl,eR.frz hM m d v z hp.1 (fun b hb=>Q b (by simp[hb])) E,ex.frz hM ms i A I hp.2 (fun b hb=>Q b (by simp[hb])) h4⟩
end
def SV.frz:SV->Option DV
 | .own m v=>if m.plain then some v else none
 | .d v=>some v
 | .nils=>some (.slice [])
 | .lit sz n cs=>SV.toDV (.lit sz n cs)
 |_=>none
def SV.frzs:List SV->Option (List DV)
 |[]=>some []
 |c::cs=>match SV.frz c,SV.frzs cs with|some x,some xs=>some (x::xs)|_,_=>none
def SV.frzR:List (List SV)->Option (List (List DV))
 |[]=>some []
 |r::rs=>match SV.frzs r,SV.frzR rs with|some x,some xs=>some (x::xs)|_,_=>none
theorem rA (hM:∀ b,M' b->M b) {x:SV} {d:DV} (Q:∀ b∈F,¬ M' b) (hr:aQ w M κ x u F) (h:x.frz=some d):ba w M' d u:=by
 cases x with
 |own m d'=>
  simp only[SV.frz] at h
  split at h
  ·rename_i hp
   simp only[SN] at h;subst h
   simp only[aQ] at hr
   exact hr.frz hM m _ u F hp Q
  ·cases h
 |d v=>exact(ah.toDV (.d v) _ _ (by simp only[aQ] at hr;exact hr.2) (by simpa only[SV.frz,SV.toDV] using h)).ext (lA.shrink hM)
 |nils=>exact(ah.toDV .nils _ _ (by simp only[aQ] at hr;exact hr.2) (by simpa only[SV.frz,SV.toDV] using h)).ext (lA.shrink hM)
 |lit sz n cs=>exact(ah.toDV (.lit sz n cs) _ _ (by simp only[aQ] at hr;exact hr.2) (by simpa only[SV.frz] using h)).ext (lA.shrink hM)
 |_=>simp[SV.frz] at h
theorem Hx {M M':Nat->Prop} (hM:∀ b,M' b->M b):∀ {cs:List SV} {us:List Value} {F:List Nat} {O:List DV},(∀ b∈F,¬ M' b)->ar w M κ cs us F->SV.frzs cs=some O->aN w M' O us
 |[],us,F,O,Q,hr,h=>by
  simp only[SV.frzs,SN] at h;subst h
  simp only[ar] at hr;unfold aN;exact hr.1
 |c::cs,us,F,O,Q,hr,h=>by
  simp only[SV.frzs] at h
  split at h
  ·rename_i x xs hx T
   simp only[SN] at h;subst h
   simp only[ar] at hr
   obtain⟨u,g,z,I,rfl,rfl,h1,h2⟩:=hr
   unfold aN
   exact⟨u,g,rfl,rA hM (fun b hb=>Q b (by simp[hb])) h1 hx,Hx hM (fun b hb=>Q b (by simp[hb])) h2 T⟩
  ·cases h
theorem BU:∀ (xs ys:List SV),SV.frzs (xs++ys)=match SV.frzs xs,SV.frzs ys with|some a,some b=>some (a++b)|_,_=>none
 |[],ys=>by simp only[Tb,SV.frzs];cases SV.frzs ys<;>rfl
 |x::xs,ys=>by
  simp only[S_,SV.frzs,BU xs ys]
  cases SV.frz x<;>cases SV.frzs xs<;>cases SV.frzs ys<;>rfl
theorem BV:∀ {xs:List SV} {O:List DV},SV.frzs xs=some O->O.length=xs.length
 |[],O,h=>by simp only[SV.frzs,SN] at h;subst h;rfl
 |x::xs,O,h=>by
  simp only[SV.frzs] at h
  split at h
  ·rename_i y ys hy k
   simp only[SN] at h;subst h
   simp[BV k]
  ·cases h
theorem Fp:∀ {rows:List (List SV)} {O:List (List DV)},SV.frzR rows=some O->SV.frzs rows.flatten=some O.flatten/\O.length=rows.length/\∀ sz,(∀ r∈rows,r.length=sz)->∀ r∈O,r.length=sz
 |[],O,h=>by simp only[SV.frzR,SN] at h;subst h;simp[SV.frzs]
 |r::rows,O,h=>by
  simp only[SV.frzR] at h
  split at h
  ·rename_i x xs hx T
   simp only[SN] at h;subst h
   obtain⟨h1,h2,E⟩:=Fp T
   refine⟨by simp only[TB,BU,hx,h1],by simp[h2],fun sz R q hq=> ?_⟩
   simp only[S9] at hq
   rcases hq with rfl|hq
   ·rw[BV hx];exact R r oS
   ·exact E sz (fun r hr=>R r (by simp[hr])) q hq
  ·cases h
theorem Gn (hM:∀ b,M' b->M b) (Q:∀ b∈F,¬ M' b) (hr:kK w M κ id (.vec e sz rows) F) (h:SV.frzR rows=some O):ba w M' (.slice O) (κ id):=by
 obtain⟨xs,G,h1,h2,E,h4,rfl⟩:=hr
 obtain⟨k1,k2,k3⟩:=Fp h
 exact Dj (by rw[k2];exact h1) h2 (k3 sz E) (Hx hM (fun b hb=>Q b (by simp[hb])) h4 k1) (fun b hb=>Q b (by simp[hb]))
theorem cH.freeze (hr:cH c σ κ φ a w) (hv:σ.h id= .vec e sz rows) (hf:SV.frzR rows=some O):cH c (σ.swap id (.slice O) .dead) (aD κ id (.pointer none)) (aD φ id []) a w:=by
 refine hr.swap rfl rfl rfl rfl (S0 _) (fun _ _ _=>rfl) oS oS ?_ rfl
 have r2:=hr.chunks id
 rw[hv] at r2
 refine Gn (M:=own c φ) (fun b hb=> ?_) (fun b hb=> ?_) r2 hf
 ·rcases hb with h|⟨j,h⟩
  ·exact .inl h
  ·by_cases f:j=id
   ·subst f;rw[au] at h;simp at h
   ·rw[bv _ _ _ _ f] at h;exact .inr ⟨j,h⟩
 ·rintro(h|⟨j,h⟩)
  ·have h1:=hr.m0 b h
   have h2:=(hr.mine id b hb).2
   rcases h2 with h2|h2
   ·omega
   ·exact h1.2 h2
  ·by_cases f:j=id
   ·subst f;rw[au] at h;simp at h
   ·rw[bv _ _ _ _ f] at h;exact hr.sep j id b f h hb
theorem cH.drop (hr:cH c σ κ φ a w) (id:Nat):cH c ⟨σ.s,aD σ.h id .dead⟩ κ (aD φ id []) a w:=
 hr.modify rfl rfl rfl rfl (fun _ _=>rfl) (List.nil_sublist _) (fun _=>rfl)
theorem cH.vecnil (hr:cH c σ κ φ a w) {t:Nat} (hs:σ.s t= .nils):cH c {σ.swap id .any (.vec e sz []) with s:=aD (eC id .any σ.s) t (.vec id)} (aD κ id (.slice none 0 0)) (aD φ id []) a w:=by
 have h1:cH c (σ.swap id .any (.vec e sz [])) (aD κ id (.slice none 0 0)) (aD φ id []) a w:=by
  refine hr.swap rfl rfl rfl rfl (S0 _) (fun _ _ _=>rfl) oS oS (by unfold ba;trivial) ?_
  simp only[kK]
  exact⟨[],[],by rw[au];exact World.ownsRow_nil w 0 e sz,by simp,by simp,by simp[ar],by rw[au];rfl⟩
 have key:∀ i v,ah w (own c φ) κ (σ.s i) v->ah w (own c (aD φ id [])) (aD κ id (.slice none 0 0)) ((σ.swap id .any (.vec e sz [])).s i) v->ah w (own c (aD φ id [])) (aD κ id (.slice none 0 0)) (aD (eC id .any σ.s) t (.vec id) i) v:=fun i v h0 hv=>by
  by_cases h5:i=t
  ·subst h5
   rw[hs] at h0
   simp only[ah] at h0
   simp only[au,ah]
   exact h0
  ·simp only[bv _ _ _ _ h5]
   exact hv
 exact⟨h1.chg,h1.size,h1.m0,h1.ntmps,h1.defers,h1.kok,fun i hi=>key i _ (hr.slots i hi) (h1.slots i hi),fun i v hv=>key _ v (hr.ghost i v hv) (h1.ghost i v hv),h1.chunks,h1.mine,h1.nod,h1.sep⟩
end
