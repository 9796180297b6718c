/-
  My text.
-/
import Derived.Test.YteaolfcegaidpaaGreatDoorSXEngG
namespace Go.Proofs.YteaolfcegaidpaaGreatDoor
set_option linter.unusedSimpArgs false
set_option linter.unusedVariables false
open Go.RowKit
def zw (id:Nat):List Nat->Bool
 |[]=>false
 |i::l=>if i=id then true else zw id l
theorem Bg {id:Nat}:∀ {l:List Nat},zw id l=false->∀ i∈l,i≠id
 |j::l,h,i,hi=>by
  unfold zw at h
  split at h
  ·cases h
  ·rename_i hj
   rcases Ml.1 hi with rfl|hi
   ·exact hj
   ·exact Bg h i hi
def Ha (f:FuncId) (l:List Nat):Bool->SV
 |true=> .d .any
 |false=> .clo f l
mutual
def eS (id:Nat) (dv:DV):SV->SV
 | .d v=> .d v
 | .nils=> .nils
 | .lit sz n cs=> .lit sz n (eE id dv cs)
 | .agg cs=> .agg (eE id dv cs)
 | .tup cs=> .tup (eE id dv cs)
 | .ref i off=>if i=id then .d .any else .ref i off
 | .vec i=>if i=id then .d dv else .vec i
 | .vref i sz k off=>if i=id then .d .any else .vref i sz k off
 | .mp i=>if i=id then .d .any else .mp i
 | .clo f l=>Ha f l (zw id l)
 | .own m v=> .own m v
def eE (id:Nat) (dv:DV):List SV->List SV
 |[]=>[]
 |c::cs=>eS id dv c::eE id dv cs
end
def qe (id:Nat) (dv:DV):List (List SV)->List (List SV)
 |[]=>[]
 |r::rs=>eE id dv r::qe id dv rs
def tg (id:Nat) (dv:DV):List (DV×SV)->List (DV×SV)
 |[]=>[]
 |(k,c)::kv=>(k,eS id dv c)::tg id dv kv
def zx (id:Nat) (dv:DV):Ch->Ch
 | .dead=> .dead
 | .box cs=> .box (eE id dv cs)
 | .vec e sz rows=> .vec e sz (qe id dv rows)
 | .map kk kv=> .map kk (tg id dv kv)
 | .bld T e bs=> .bld T e bs
def eF (id:Nat) (dv:DV) (s:Nat->SV):Nat->SV:=fun i=>eS id dv (s i)
def jz (id:Nat) (dv:DV) (h:Nat->Ch):Nat->Ch:=fun i=>zx id dv (h i)
def St.swap (σ:St) (id:Nat) (dv:DV) (c:Ch):St:=⟨eF id dv σ.s,ay (jz id dv σ.h) id c⟩
theorem th (id:Nat) (dv:DV):∀ (xs ys:List SV),eE id dv (xs++ys)=eE id dv xs++eE id dv ys
 |[],ys=>rfl
 |x::xs,ys=>by simp[eE,th id dv xs ys]
theorem nV (id:Nat) (dv:DV):∀ (xs:List SV),(eE id dv xs).length=xs.length
 |[]=>rfl
 |x::xs=>by simp[eE,nV id dv xs]
theorem j_ (id:Nat) (dv:DV):∀ (rs:List (List SV)),(qe id dv rs).flatten=eE id dv rs.flatten
 |[]=>rfl
 |r::rs=>by simp[qe,th,j_ id dv rs]
theorem lR (id:Nat) (dv:DV):∀ (rs:List (List SV)),(qe id dv rs).length=rs.length
 |[]=>rfl
 |r::rs=>by simp[qe,lR id dv rs]
theorem rc (id:Nat) (dv:DV) (sz:Nat):∀ (rs:List (List SV)),(∀ r∈rs,r.length=sz)->∀ r∈qe id dv rs,r.length=sz
 |[],_,r,hr=>by simp[qe] at hr
 |q::rs,h,r,hr=>by
  simp only[qe,Ml] at hr
  rcases hr with rfl|hr
  ·rw[nV];exact h q oS
  ·exact rc id dv sz rs (fun r hr=>h r (by simp[hr])) r hr
section
variable {w w':World} {M M':Nat->Prop} {κ:Nat->Value} {id:Nat} {dv:DV} {v:Value}
mutual
theorem fF (h:kN w M w' M') (hd:aK w' M' dv (κ id)):∀ (x:SV) (u:Value),af w M κ x u->af w' M' (ay κ id v) (eS id dv x) u
 | .d x,u,hr=>by simp only[af,eS] at *;exact hr.ext h
 | .nils,u,hr=>by simp only[af,eS] at *;exact hr
 | .lit sz n cs,u,hr=>by
  simp only[af,eS] at *
  obtain⟨b,vs,h1,h2,h3,h4,h5,h6,h7⟩:=hr
  exact⟨b,vs,h1,(h.keep b h3 h2).2,Mx h3 h.size,h4,h5,fun j v hj=>by rw[h.cell h3 h2];exact h6 j v hj,re h hd cs vs h7⟩
 | .agg cs,u,hr=>by
  simp only[af,eS] at *
  obtain⟨vs,h1,h2,h3⟩:=hr
  exact⟨vs,h1,h2,re h hd cs vs h3⟩
 | .tup cs,u,hr=>by
  simp only[af,eS] at *
  obtain⟨vs,h1,h3⟩:=hr
  exact⟨vs,h1,re h hd cs vs h3⟩
 | .ref i off,u,hr=>by
  simp only[eS]
  split
  ·simp[af,aK]
  ·rename_i hne
   simp only[af] at *
   rw[aS _ _ _ _ hne];exact hr
 | .vec i,u,hr=>by
  simp only[eS]
  split
  ·rename_i he
   subst he
   simp only[af] at *;subst hr;exact hd
  ·rename_i hne
   simp only[af] at *
   rw[aS _ _ _ _ hne];exact hr
 | .vref i sz k off,u,hr=>by
  simp only[eS]
  split
  ·simp[af,aK]
  ·rename_i hne
   simp only[af] at *
   rw[aS _ _ _ _ hne];exact hr
 | .mp i,u,hr=>by
  simp only[eS]
  split
  ·simp[af,aK]
  ·rename_i hne
   simp only[af] at *
   rw[aS _ _ _ _ hne];exact hr
 | .clo f l,u,hr=>by
  simp only[eS]
  cases hc:zw id l with
  |true=>simp[Ha,af,aK]
  |false=>
   simp only[Ha,af] at *
   have hk:∀ i∈l,ay κ id v i=κ i:=fun i hi=>aS _ _ _ _ (Bg hc i hi)
   refine⟨by rw[hr.1,Nv hk],fun i hi=>by rw[hk i hi];exact hr.2 i hi⟩
 | .own _ _,u,hr=>by simp only[af] at hr
theorem re (h:kN w M w' M') (hd:aK w' M' dv (κ id)):∀ (cs:List SV) (us:List Value),aj w M κ cs us->aj w' M' (ay κ id v) (eE id dv cs) us
 |[],us,hr=>by simp only[aj,eE] at *;exact hr
 |c::cs,us,hr=>by
  simp only[aj,eE] at *
  obtain⟨u,us',h1,h2,h3⟩:=hr
  exact⟨u,us',h1,fF h hd c u h2,re h hd cs us' h3⟩
end
mutual
theorem Hb (h:kN w M w' M') (hd:aK w' M' dv (κ id)):∀ (x:SV) (u:Value) (F:List Nat),(∀ b∈F,w'.heap[b]?=w.heap[b]?)->aQ w M κ x u F->aQ w' M' (ay κ id v) (eS id dv x) u F
 | .own m d,u,F,hk,hr=>by simp only[aQ,eS] at *;exact fA.ext h m d u F hk hr
 | .agg cs,u,F,hk,hr=>by
  simp only[aQ,eS] at *
  obtain⟨vs,h1,h2,h3⟩:=hr
  exact⟨vs,h1,h2,wy h hd cs vs F hk h3⟩
 | .tup cs,u,F,hk,hr=>by
  simp only[aQ,eS] at *
  obtain⟨vs,h1,h3⟩:=hr
  exact⟨vs,h1,wy h hd cs vs F hk h3⟩
 | .d x,u,F,hk,hr=>by simp only[aQ] at hr;obtain⟨rfl,hr⟩:=hr;exact aQ.of_S _ _ (fF h hd _ _ hr)
 | .nils,u,F,hk,hr=>by simp only[aQ] at hr;obtain⟨rfl,hr⟩:=hr;exact aQ.of_S _ _ (fF h hd _ _ hr)
 | .lit _ _ _,u,F,hk,hr=>by simp only[aQ] at hr;obtain⟨rfl,hr⟩:=hr;exact aQ.of_S _ _ (fF h hd _ _ hr)
 | .ref _ _,u,F,hk,hr=>by simp only[aQ] at hr;obtain⟨rfl,hr⟩:=hr;exact aQ.of_S _ _ (fF h hd _ _ hr)
 | .vec _,u,F,hk,hr=>by simp only[aQ] at hr;obtain⟨rfl,hr⟩:=hr;exact aQ.of_S _ _ (fF h hd _ _ hr)
 | .vref _ _ _ _,u,F,hk,hr=>by simp only[aQ] at hr;obtain⟨rfl,hr⟩:=hr;exact aQ.of_S _ _ (fF h hd _ _ hr)
 | .mp _,u,F,hk,hr=>by simp only[aQ] at hr;obtain⟨rfl,hr⟩:=hr;exact aQ.of_S _ _ (fF h hd _ _ hr)
 | .clo _ _,u,F,hk,hr=>by simp only[aQ] at hr;obtain⟨rfl,hr⟩:=hr;exact aQ.of_S _ _ (fF h hd _ _ hr)
theorem wy (h:kN w M w' M') (hd:aK w' M' dv (κ id)):∀ (cs:List SV) (us:List Value) (F:List Nat),(∀ b∈F,w'.heap[b]?=w.heap[b]?)->ao w M κ cs us F->ao w' M' (ay κ id v) (eE id dv cs) us F
 |[],us,F,hk,hr=>by simp only[ao,eE] at *;exact hr
 |c::cs,us,F,hk,hr=>by
  simp only[ao,eE] at *
  obtain⟨u,us',F1,F2,h1,rfl,h2,h3⟩:=hr
  exact⟨u,us',F1,F2,h1,rfl,Hb h hd c u F1 (fun b hb=>hk b (by simp[hb])) h2,wy h hd cs us' F2 (fun b hb=>hk b (by simp[hb])) h3⟩
end
theorem zy (h:kN w M w' M') (hd:aK w' M' dv (κ id)) {kk:KK}:∀ (kv:List (DV×SV)) (es:List MapEntry) (F:List Nat),(∀ b∈F,w'.heap[b]?=w.heap[b]?)->bn w M κ kk kv es F->bn w' M' (ay κ id v) kk (tg id dv kv) es F
 |[],es,F,hk,hr=>by simp only[bn,tg] at *;exact hr
 |(k,c)::kv,es,F,hk,hr=>by
  simp only[bn,tg] at *
  obtain⟨e,rest,F1,F2,h1,rfl,h2,h3,h4,h5⟩:=hr
  exact⟨e,rest,F1,F2,h1,rfl,h2,h3,Hb h hd c _ F1 (fun b hb=>hk b (by simp[hb])) h4,zy h hd kv rest F2 (fun b hb=>hk b (by simp[hb])) h5⟩
theorem wz (h:kN w M w' M') (hd:aK w' M' dv (κ id)) {j:Nat} (hj:j≠id) {c:Ch} {F:List Nat} (hk:∀ b∈F,w'.heap[b]?=w.heap[b]?) (hc:j7 w M κ j c F):j7 w' M' (ay κ id v) j (zx id dv c) F:=by
 have hkj:ay κ id v j=κ j:=aS _ _ _ _ hj
 cases c with
 |dead=>exact hc
 |box cs=>
  obtain⟨b,T,vs,G,h1,h2,h3,h4,rfl⟩:=hc
  exact⟨b,T,vs,G,by rw[hkj];exact h1,by rw[hk b oS];exact h2,h3,wy h hd cs vs G (fun b hb=>hk b (by simp[hb])) h4,rfl⟩
 |vec e sz rows=>
  obtain⟨xs,G,h1,h2,h3,h4,rfl⟩:=hc
  refine⟨xs,G,by rw[hkj,lR];exact tc (fun b hb=>hk b (by simp[hb])) h1,h2,rc id dv sz rows h3, ?_,by rw[hkj]⟩
  rw[j_]
  exact wy h hd _ xs G (fun b hb=>hk b (by simp[hb])) h4
 |map kk kv=>
  obtain⟨r,es,clock,G,h1,h2,hB,h3,rfl⟩:=hc
  exact⟨r,es,clock,G,by rw[hkj];exact h1,by rw[hk r oS];exact h2,hB,zy h hd kv es G (fun b hb=>hk b (by simp[hb])) h3,rfl⟩
 |bld T e bs=>show yb w' T e bs (ay κ id v j) F;rw[hkj];exact yb.ext hk hc
end
section
variable {P:Program} {c:Cx} {σ:St} {κ:Nat->Value} {φ:Nat->List Nat} {a:Act} {w:World}
theorem rf (hr:ce c σ κ φ a w) {id:Nat} {F':List Nat} {w':World} (hsize:w.heap.size<=w'.heap.size)
  (hkeep:∀ b,b<w.heap.size->b∉φ id->w'.heap[b]?=w.heap[b]?) (hF:∀ b∈F',(w.heap.size<=b\/b∈φ id)/\b<w'.heap.size):
  kN w (own c φ) w' (own c (ay φ id F')):=by
 refine⟨hsize,fun b hb hm=>⟨hkeep b hb fun h1=>hm (.inr ⟨id,h1⟩), ?_⟩⟩
 rintro(h0|⟨j,hj⟩)
 ·exact hm (.inl h0)
 ·by_cases hji:j=id
  ·subst hji
   rw[al] at hj
   rcases(hF b hj).1 with h1|h1
   ·omega
   ·exact hm (.inr ⟨j,h1⟩)
  ·rw[aS _ _ _ _ hji] at hj
   exact hm (.inr ⟨j,hj⟩)
theorem ce.swap (hr:ce c σ κ φ a w) {id:Nat} {v:Value} {dv:DV} {ch:Ch} {F':List Nat} {w':World} (hone:v.oneCell'=true)
  (hos:w'.os=w.os) (htape:w'.tape=w.tape) (hout:w'.output=w.output) (hsize:w.heap.size<=w'.heap.size)
  (hkeep:∀ b,b<w.heap.size->b∉φ id->w'.heap[b]?=w.heap[b]?)
  (hF:∀ b∈F',(w.heap.size<=b\/b∈φ id)/\b<w'.heap.size) (hnod:F'.Nodup)
  (hd:aK w' (own c (ay φ id F')) dv (κ id))
  (hc:j7 w' (own c (ay φ id F')) (ay κ id v) id ch F'):ce c (σ.swap id dv ch) (ay κ id v) (ay φ id F') a w':=by
 have hext:=rf hr hsize hkeep hF
 refine⟨hr.chg.trans ⟨hos,htape,hout,hsize,fun b hb hA=>hkeep b (Mx hb hr.size) fun hbi=> ?_⟩,M5 hr.size hsize,hr.m0,hr.ntmps,hr.defers,fun j=> ?_,fun i hi=>fF hext hd _ _ (hr.slots i hi),fun i v hv=>fF hext hd _ _ (hr.ghost i v hv),fun j=> ?_,fun j b hb=> ?_,fun j=> ?_, ?_⟩
 ·rcases(hr.mine id b hbi).2 with h|h
  ·omega
  ·exact hA h
 ·by_cases hji:j=id
  ·subst hji;rw[al];exact hone
  ·rw[aS _ _ _ _ hji];exact hr.kok j
 ·by_cases hji:j=id
  ·subst hji
   rw[show(σ.swap j dv ch).h j=ch by simp[St.swap,al],al];exact hc
  ·rw[show(σ.swap id dv ch).h j=zx id dv (σ.h j) by simp[St.swap,aS _ _ _ _ hji,jz],aS _ _ _ _ hji]
   exact wz hext hd hji (fun b hb=>hkeep b (hr.mine j b hb).1 fun hb'=>hr.sep j id b hji hb hb') (hr.chunks j)
 ·by_cases hji:j=id
  ·subst hji
   rw[al] at hb
   refine⟨(hF b hb).2, ?_⟩
   rcases(hF b hb).1 with h|h
   ·exact .inl (M5 hr.size h)
   ·exact(hr.mine j b h).2
  ·rw[aS _ _ _ _ hji] at hb
   exact⟨Mx (hr.mine j b hb).1 hsize,(hr.mine j b hb).2⟩
 ·by_cases hji:j=id
  ·subst hji;rw[al];exact hnod
  ·rw[aS _ _ _ _ hji];exact hr.nod j
 ·have key:∀ j b,j≠id->b∈F'->b∈φ j->False:=fun j b hj h1 h2=>by
   rcases(hF b h1).1 with h|h
   ·have:=(hr.mine j b h2).1;omega
   ·exact hr.sep j id b hj h2 h
  intro i j b hij hi hj
  by_cases hii:i=id
  ·subst hii
   rw[al] at hi;rw[aS _ _ _ _ (Ne.symm hij)] at hj
   exact key j b (Ne.symm hij) hi hj
  ·rw[aS _ _ _ _ hii] at hi
   by_cases hjj:j=id
   ·subst hjj;rw[al] at hj;exact key i b hii hj hi
   ·rw[aS _ _ _ _ hjj] at hj;exact hr.sep i j b hij hi hj
theorem ce.modify (hr:ce c σ κ φ a w) {id:Nat} {ch:Ch} {F':List Nat} {w':World}
  (hos:w'.os=w.os) (htape:w'.tape=w.tape) (hout:w'.output=w.output) (hsize:w'.heap.size=w.heap.size)
  (hkeep:∀ b,b∉φ id->w'.heap[b]?=w.heap[b]?) (hF:F'.Sublist (φ id))
  (hc:kN w (own c φ) w' (own c (ay φ id F'))->j7 w' (own c (ay φ id F')) κ id ch F'):ce c ⟨σ.s,ay σ.h id ch⟩ κ (ay φ id F') a w':=by
 have hF':∀ b∈F',(w.heap.size<=b\/b∈φ id)/\b<w'.heap.size:=fun b hb=>⟨.inr (hF.subset hb),by rw[hsize];exact(hr.mine id b (hF.subset hb)).1⟩
 have hext:=rf hr oM (fun b _ hb=>hkeep b hb) hF'
 refine⟨hr.chg.trans ⟨hos,htape,hout,by omega,fun b hb hA=>hkeep b fun hbi=> ?_⟩,by have:=hr.size;omega,hr.m0,hr.ntmps,hr.defers,hr.kok,fun i hi=>af.ext hext _ _ (hr.slots i hi),fun i v hv=>af.ext hext _ _ (hr.ghost i v hv),fun j=> ?_,fun j b hb=> ?_,fun j=> ?_, ?_⟩
 ·rcases(hr.mine id b hbi).2 with h|h
  ·omega
  ·exact hA h
 ·by_cases hji:j=id
  ·subst hji;dsimp only;rw[al,al];exact hc hext
  ·dsimp only;rw[aS _ _ _ _ hji,aS _ _ _ _ hji]
   exact(hr.chunks j).ext hext fun b hb=>hkeep b fun hb'=>hr.sep j id b hji hb hb'
 ·by_cases hji:j=id
  ·subst hji;rw[al] at hb;exact⟨(hF' b hb).2,(hr.mine j b (hF.subset hb)).2⟩
  ·rw[aS _ _ _ _ hji] at hb;rw[hsize];exact hr.mine j b hb
 ·by_cases hji:j=id
  ·subst hji;rw[al];exact(hr.nod j).sublist hF
  ·rw[aS _ _ _ _ hji];exact hr.nod j
 ·have sub:∀ i b,b∈ay φ id F' i->b∈φ i:=fun i b hb=>by
   by_cases hii:i=id
   ·subst hii;rw[al] at hb;exact hF.subset hb
   ·rwa[aS _ _ _ _ hii] at hb
  exact fun i j b hij hi hj=>hr.sep i j b hij (sub i b hi) (sub j b hj)
theorem ce.two (hr:ce c σ κ φ a w) {id id':Nat} {u:Value} {dv:DV} {ch ch':Ch} {G G':List Nat} (hne:id≠id') (hone:u.oneCell'=true)
  (hG:∀ b∈G,b∈φ id\/b∈φ id') (hG':∀ b∈G',b∈φ id\/b∈φ id') (hn:G.Nodup) (hn':G'.Nodup) (hdis:∀ b∈G,b∉G')
  (hd:aK w (own c (ay (ay φ id G) id' G')) dv (κ id'))
  (hc:kN w (own c φ) w (own c (ay (ay φ id G) id' G'))->j7 w (own c (ay (ay φ id G) id' G')) (ay κ id' u) id ch G)
  (hc':kN w (own c φ) w (own c (ay (ay φ id G) id' G'))->j7 w (own c (ay (ay φ id G) id' G')) (ay κ id' u) id' ch' G'):
  ce c ⟨eF id' dv σ.s,ay (ay (jz id' dv σ.h) id ch) id' ch'⟩ (ay κ id' u) (ay (ay φ id G) id' G') a w:=by
 have sub:∀ i b,b∈ay (ay φ id G) id' G' i->∃ k,b∈φ k/\(k=i\/((k=id\/k=id')/\(i=id\/i=id'))):=fun i b hb=>by
  by_cases hi':i=id'
  ·subst hi';rw[al] at hb
   rcases hG' b hb with h|h
   ·exact⟨id,h,.inr ⟨.inl rfl,.inr rfl⟩⟩
   ·exact⟨i,h,.inl rfl⟩
  ·rw[aS _ _ _ _ hi'] at hb
   by_cases hi:i=id
   ·subst hi;rw[al] at hb
    rcases hG b hb with h|h
    ·exact⟨i,h,.inl rfl⟩
    ·exact⟨id',h,.inr ⟨.inr rfl,.inl rfl⟩⟩
   ·rw[aS _ _ _ _ hi] at hb;exact⟨i,hb,.inl rfl⟩
 have hext:kN w (own c φ) w (own c (ay (ay φ id G) id' G')):=kN.shrink fun b hb=>by
  rcases hb with h|⟨i,h⟩
  ·exact .inl h
  ·obtain⟨k,hk,_⟩:=sub i b h;exact .inr ⟨k,hk⟩
 refine⟨hr.chg,hr.size,hr.m0,hr.ntmps,hr.defers,fun j=> ?_,fun i hi=>fF hext hd _ _ (hr.slots i hi),fun i v hv=>fF hext hd _ _ (hr.ghost i v hv),fun j=> ?_,fun j b hb=> ?_,fun j=> ?_, ?_⟩
 ·by_cases hj:j=id'
  ·subst hj;rw[al];exact hone
  ·rw[aS _ _ _ _ hj];exact hr.kok j
 ·by_cases hj':j=id'
  ·subst hj';simp only[al];exact hc' hext
  ·dsimp only;rw[aS _ _ _ _ hj',aS _ _ _ _ hj']
   by_cases hj:j=id
   ·subst hj;rw[al,al];exact hc hext
   ·rw[aS _ _ _ _ hj,aS _ _ _ _ hj]
    exact wz hext hd hj' (fun _ _=>rfl) (hr.chunks j)
 ·obtain⟨k,hk,_⟩:=sub j b hb;exact hr.mine k b hk
 ·by_cases hj':j=id'
  ·subst hj';rw[al];exact hn'
  ·rw[aS _ _ _ _ hj']
   by_cases hj:j=id
   ·subst hj;rw[al];exact hn
   ·rw[aS _ _ _ _ hj];exact hr.nod j
 ·intro i j b hij hi hj
  obtain⟨k,hk,h1⟩:=sub i b hi
  obtain⟨l,hl,h2⟩:=sub j b hj
  have hkl:k=l:=Classical.byContradiction fun hkl=>hr.sep k l b hkl hk hl
  subst hkl
  have both:(i=id\/i=id')/\(j=id\/j=id'):=by
   rcases h1 with rfl|⟨h1,h1'⟩
   ·rcases h2 with rfl|⟨h2,h2'⟩
    ·exact absurd rfl hij
    ·exact⟨h2,h2'⟩
   ·rcases h2 with rfl|⟨h2,h2'⟩
    ·exact⟨h1',h1⟩
    ·exact⟨h1',h2'⟩
  rcases both with⟨rfl|rfl,rfl|rfl⟩
  ·exact hij rfl
  ·rw[aS _ _ _ _ hij,al] at hi;rw[al] at hj;exact hdis b hi hj
  ·rw[al] at hi;rw[aS _ _ _ _ (Ne.symm hij),al] at hj;exact hdis b hj hi
  ·exact hij rfl
mutual
def b8.plain:b8->Bool
 | .sh=>true
 | .sl _ ms=>b8.plains ms
 | .pt ms=>b8.plains ms
 | .mp _ _=>false
 | .bld _ _=>false
def b8.plains:List b8->Bool
 |[]=>true
 |m::ms=>b8.plain m&&b8.plains ms
end
theorem zz {M:Nat->Prop} {e sz:Nat} {v:Value} {rows:List (List DV)} {xs:List Value} (ho:w.ownsRow 0 e sz v rows.length xs) (hone:∀ x∈xs,x.oneCell'=true) (hall:∀ r∈rows,r.length=sz) (hl:aB w M rows.flatten xs) (hM:∀ b∈jy v,¬ M b):aK w M (.slice rows) v:=by
 unfold aK
 rcases ho.2 with⟨hk,hn⟩|⟨g,cap,cur,hk,hB,hg,hcap,_,hcur,htake⟩
 ·have:rows=[]:=Ms.1 hn
  subst this
  exact⟨none,0,hk,Me _,fun _=>rfl,.inl rfl⟩
 ·refine⟨some ⟨g,0,none⟩,cap,hk,hcap,by simp,.inr ⟨g,0,sz,rfl,hM g (by simp[jy,hk,vw]),(MY.1 hg).1, ?_⟩⟩
  rw[aL.iff]
  refine⟨hall,bq.of_row hg hl hone fun j v hj=> ?_⟩
  rw[<-htake,Nc] at hj
  split at hj
  ·simpa using hj
  ·cases hj
theorem iC.flat {R:List DV->List Value->List Nat->Prop} {M:Nat->Prop} {G0:List Nat}:∀ {rows:List (List DV)} {xs:List Value} {G:List Nat},(∀ b∈G,b∈G0)->(∀ r ys G',(∀ b∈G',b∈G0)->R r ys G'->aB w M r ys)->iC R rows xs G->aB w M rows.flatten xs
 |[],xs,G,_,_,h=>by obtain⟨rfl,_⟩:=h;simp[aB]
 |r::rs,xs,G,hG,hR,h=>by
  obtain⟨ys,zs,G1,G2,rfl,rfl,h3,h4⟩:=h
  rw[MJ]
  exact(hR r ys G1 (fun b hb=>hG b (by simp[hb])) h3).append (iC.flat (fun b hb=>hG b (by simp[hb])) hR h4)
mutual
theorem fA.frz {M M':Nat->Prop} (hM:∀ b,M' b->M b):∀ (m:b8) (d:DV) (v:Value) (F:List Nat),m.plain=true->(∀ b∈F,¬ M' b)->fA w M m d v F->aK w M' d v
 | .sh,d,v,F,_,hF,hr=>by unfold fA at hr;exact hr.2.ext (kN.shrink hM)
 | .sl e ms,d,v,F,hp,hF,hr=>by
  unfold fA at hr
  obtain⟨rows,xs,G,rfl,ho,h1,h2,h3,rfl⟩:=hr
  refine zz ho h1 h2 ?_ (fun b hb=>hF b (by simp[hb]))
  exact h3.flat (G0:=G) (fun b hb=>hb) fun r ys G' hG hr=>gW.frz hM ms r ys G' (by simpa[b8.plain] using hp) (fun b hb=>hF b (by simp[hG b hb])) hr
 | .pt ms,d,v,F,hp,hF,hr=>by
  unfold fA at hr
  obtain⟨cs,b,T,vs,G,rfl,rfl,hh,h1,h2,rfl⟩:=hr
  have hl:=gW.frz hM ms cs vs G (by simpa[b8.plain] using hp) (fun b hb=>hF b (by simp[hb])) h2
  unfold aK
  exact⟨b,0,rfl,hF b oS,(MY.1 hh).1,bq.of_row hh hl h1 oS⟩
 | .mp _ _,d,v,F,hp,_,_=>by simp[b8.plain] at hp
 | .bld _ _,d,v,F,hp,_,_=>by simp[b8.plain] at hp
theorem gW.frz {M M':Nat->Prop} (hM:∀ b,M' b->M b):∀ (ms:List b8) (ds:List DV) (vs:List Value) (F:List Nat),b8.plains ms=true->(∀ b∈F,¬ M' b)->gW w M ms ds vs F->aB w M' ds vs
 |[],ds,vs,F,_,_,hr=>by unfold gW at hr;obtain⟨rfl,rfl,_⟩:=hr;unfold aB;rfl
 |m::ms,ds,vs,F,hp,hF,hr=>by
  unfold gW at hr
  obtain⟨d,ds',v,vs',F1,F2,rfl,rfl,rfl,h3,h4⟩:=hr
  simp only[b8.plains,L9] at hp
  unfold aB
  exact⟨v,vs',rfl,fA.frz hM m d v F1 hp.1 (fun b hb=>hF b (by simp[hb])) h3,gW.frz hM ms ds' vs' F2 hp.2 (fun b hb=>hF b (by simp[hb])) h4⟩
end
def SV.frz:SV->Option DV
 | .own m v=>if m.plain then some v else none
 | .d v=>some v
 | .nils=>some (.slice [])
 | .lit sz n cs=>SV.toDV (.lit sz n cs)
 |_=>none
def SV.frzs:List SV->Option (List DV)
 |[]=>some []
 |c::cs=>match SV.frz c,SV.frzs cs with|some x,some xs=>some (x::xs)|_,_=>none
def SV.frzR:List (List SV)->Option (List (List DV))
 |[]=>some []
 |r::rs=>match SV.frzs r,SV.frzR rs with|some x,some xs=>some (x::xs)|_,_=>none
theorem wA {M M':Nat->Prop} (hM:∀ b,M' b->M b) {x:SV} {u:Value} {F:List Nat} {d:DV} (hF:∀ b∈F,¬ M' b) (hr:aQ w M κ x u F) (h:x.frz=some d):aK w M' d u:=by
 cases x with
 |own m d'=>
  simp only[SV.frz] at h
  split at h
  ·rename_i hp
   simp only[L7] at h;subst h
   simp only[aQ] at hr
   exact hr.frz hM m _ u F hp hF
  ·cases h
 |d v=>exact(af.toDV (.d v) _ _ (by simp only[aQ] at hr;exact hr.2) (by simpa only[SV.frz,SV.toDV] using h)).ext (kN.shrink hM)
 |nils=>exact(af.toDV .nils _ _ (by simp only[aQ] at hr;exact hr.2) (by simpa only[SV.frz,SV.toDV] using h)).ext (kN.shrink hM)
 |lit sz n cs=>exact(af.toDV (.lit sz n cs) _ _ (by simp only[aQ] at hr;exact hr.2) (by simpa only[SV.frz] using h)).ext (kN.shrink hM)
 |_=>simp[SV.frz] at h
theorem zA {M M':Nat->Prop} (hM:∀ b,M' b->M b):∀ {cs:List SV} {us:List Value} {F:List Nat} {ds:List DV},(∀ b∈F,¬ M' b)->ao w M κ cs us F->SV.frzs cs=some ds->aB w M' ds us
 |[],us,F,ds,hF,hr,h=>by
  simp only[SV.frzs,L7] at h;subst h
  simp only[ao] at hr;unfold aB;exact hr.1
 |c::cs,us,F,ds,hF,hr,h=>by
  simp only[SV.frzs] at h
  split at h
  ·rename_i x xs hx hxs
   simp only[L7] at h;subst h
   simp only[ao] at hr
   obtain⟨u,us',F1,F2,rfl,rfl,h1,h2⟩:=hr
   unfold aB
   exact⟨u,us',rfl,wA hM (fun b hb=>hF b (by simp[hb])) h1 hx,zA hM (fun b hb=>hF b (by simp[hb])) h2 hxs⟩
  ·cases h
theorem ym:∀ (xs ys:List SV),SV.frzs (xs++ys)=match SV.frzs xs,SV.frzs ys with|some a,some b=>some (a++b)|_,_=>none
 |[],ys=>by simp only[Mq,SV.frzs];cases SV.frzs ys<;>rfl
 |x::xs,ys=>by
  simp only[Mn,SV.frzs,ym xs ys]
  cases SV.frz x<;>cases SV.frzs xs<;>cases SV.frzs ys<;>rfl
theorem yp:∀ {xs:List SV} {ds:List DV},SV.frzs xs=some ds->ds.length=xs.length
 |[],ds,h=>by simp only[SV.frzs,L7] at h;subst h;rfl
 |x::xs,ds,h=>by
  simp only[SV.frzs] at h
  split at h
  ·rename_i y ys hy hys
   simp only[L7] at h;subst h
   simp[yp hys]
  ·cases h
theorem Bh:∀ {rows:List (List SV)} {ds:List (List DV)},SV.frzR rows=some ds->SV.frzs rows.flatten=some ds.flatten/\ds.length=rows.length/\∀ sz,(∀ r∈rows,r.length=sz)->∀ r∈ds,r.length=sz
 |[],ds,h=>by simp only[SV.frzR,L7] at h;subst h;simp[SV.frzs]
 |r::rows,ds,h=>by
  simp only[SV.frzR] at h
  split at h
  ·rename_i x xs hx hxs
   simp only[L7] at h;subst h
   obtain⟨h1,h2,h3⟩:=Bh hxs
   refine⟨by simp only[MJ,ym,hx,h1],by simp[h2],fun sz hall q hq=> ?_⟩
   simp only[Ml] at hq
   rcases hq with rfl|hq
   ·rw[yp hx];exact hall r oS
   ·exact h3 sz (fun r hr=>hall r (by simp[hr])) q hq
  ·cases h
theorem B_ {M M':Nat->Prop} (hM:∀ b,M' b->M b) {id e sz:Nat} {rows:List (List SV)} {F:List Nat} {ds:List (List DV)} (hF:∀ b∈F,¬ M' b) (hr:j7 w M κ id (.vec e sz rows) F) (h:SV.frzR rows=some ds):aK w M' (.slice ds) (κ id):=by
 obtain⟨xs,G,h1,h2,h3,h4,rfl⟩:=hr
 obtain⟨k1,k2,k3⟩:=Bh h
 exact zz (by rw[k2];exact h1) h2 (k3 sz h3) (zA hM (fun b hb=>hF b (by simp[hb])) h4 k1) (fun b hb=>hF b (by simp[hb]))
theorem ce.freeze (hr:ce c σ κ φ a w) {id e sz:Nat} {rows:List (List SV)} {ds:List (List DV)} (hv:σ.h id= .vec e sz rows) (hf:SV.frzR rows=some ds):ce c (σ.swap id (.slice ds) .dead) (ay κ id (.pointer none)) (ay φ id []) a w:=by
 refine hr.swap rfl rfl rfl rfl (Me _) (fun _ _ _=>rfl) oS oS ?_ rfl
 have hch:=hr.chunks id
 rw[hv] at hch
 refine B_ (M:=own c φ) (fun b hb=> ?_) (fun b hb=> ?_) hch hf
 ·rcases hb with h|⟨j,h⟩
  ·exact .inl h
  ·by_cases hji:j=id
   ·subst hji;rw[al] at h;simp at h
   ·rw[aS _ _ _ _ hji] at h;exact .inr ⟨j,h⟩
 ·rintro(h|⟨j,h⟩)
  ·have h1:=hr.m0 b h
   have h2:=(hr.mine id b hb).2
   rcases h2 with h2|h2
   ·omega
   ·exact h1.2 h2
  ·by_cases hji:j=id
   ·subst hji;rw[al] at h;simp at h
   ·rw[aS _ _ _ _ hji] at h;exact hr.sep j id b hji h hb
theorem ce.drop (hr:ce c σ κ φ a w) (id:Nat):ce c ⟨σ.s,ay σ.h id .dead⟩ κ (ay φ id []) a w:=
 hr.modify rfl rfl rfl rfl (fun _ _=>rfl) (List.nil_sublist _) (fun _=>rfl)
theorem ce.vecnil (hr:ce c σ κ φ a w) {id e sz slot:Nat} (hs:σ.s slot= .nils):ce c {σ.swap id .any (.vec e sz []) with s:=ay (eF id .any σ.s) slot (.vec id)} (ay κ id (.slice none 0 0)) (ay φ id []) a w:=by
 have h1:ce c (σ.swap id .any (.vec e sz [])) (ay κ id (.slice none 0 0)) (ay φ id []) a w:=by
  refine hr.swap rfl rfl rfl rfl (Me _) (fun _ _ _=>rfl) oS oS (by unfold aK;trivial) ?_
  simp only[j7]
  exact⟨[],[],by rw[al];exact World.ownsRow_nil w 0 e sz,by simp,by simp,by simp[ao],by rw[al];rfl⟩
 have key:∀ i v,af w (own c φ) κ (σ.s i) v->af w (own c (ay φ id [])) (ay κ id (.slice none 0 0)) ((σ.swap id .any (.vec e sz [])).s i) v->af w (own c (ay φ id [])) (ay κ id (.slice none 0 0)) (ay (eF id .any σ.s) slot (.vec id) i) v:=fun i v h0 hv=>by
  by_cases hi':i=slot
  ·subst hi'
   rw[hs] at h0
   simp only[af] at h0
   simp only[al,af]
   exact h0
  ·simp only[aS _ _ _ _ hi']
   exact hv
 exact⟨h1.chg,h1.size,h1.m0,h1.ntmps,h1.defers,h1.kok,fun i hi=>key i _ (hr.slots i hi) (h1.slots i hi),fun i v hv=>key _ v (hr.ghost i v hv) (h1.ghost i v hv),h1.chunks,h1.mine,h1.nod,h1.sep⟩
end
