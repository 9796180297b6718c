/-
  My text.
-/
import Derived.Test.YtgmnipfafmphaaaGreatDoorSZEngG
namespace Go.Proofs.YtgmnipfafmphaaaGreatDoor
set_option linter.unusedSimpArgs false
set_option linter.unusedVariables false
open Go.RowKit
mutual
def cr (id:Nat) (dv:DV):SV->SV
 | .d v=> .d v
 | .nils=> .nils
 | .lit sz n cs=> .lit sz n (b8 id dv cs)
 | .agg cs=> .agg (b8 id dv cs)
 | .tup cs=> .tup (b8 id dv cs)
 | .ref i off=>if i=id then .d .any else .ref i off
 | .vec i=>if i=id then .d dv else .vec i
 | .vref i sz k off=>if i=id then .d .any else .vref i sz k off
 | .mp i=>if i=id then .d .any else .mp i
 | .own m v=> .own m v
def b8 (id:Nat) (dv:DV):List SV->List SV
 |[]=>[]
 |c::cs=>cr id dv c::b8 id dv cs
end
def cF (id:Nat) (dv:DV):List (List SV)->List (List SV)
 |[]=>[]
 |r::rs=>b8 id dv r::cF id dv rs
def j9 (id:Nat) (dv:DV):List (DV×SV)->List (DV×SV)
 |[]=>[]
 |(k,c)::kv=>(k,cr id dv c)::j9 id dv kv
def jf (id:Nat) (dv:DV):Ch->Ch
 | .dead=> .dead
 | .box cs=> .box (b8 id dv cs)
 | .vec e sz rows=> .vec e sz (cF id dv rows)
 | .map kk kv=> .map kk (j9 id dv kv)
 | .bld T e bs=> .bld T e bs
def ca (id:Nat) (dv:DV) (s:Nat->SV):Nat->SV:=fun i=>cr id dv (s i)
def ct (id:Nat) (dv:DV) (h:Nat->Ch):Nat->Ch:=fun i=>jf id dv (h i)
def St.swap (σ:St) (id:Nat) (dv:DV) (c:Ch):St:=⟨ca id dv σ.s,ak (ct id dv σ.h) id c⟩
theorem oI (id:Nat) (dv:DV):∀ (xs ys:List SV),b8 id dv (xs++ys)=b8 id dv xs++b8 id dv ys
 |[],ys=>rfl
 |x::xs,ys=>by simp[b8,oI id dv xs ys]
theorem kD (id:Nat) (dv:DV):∀ (xs:List SV),(b8 id dv xs).length=xs.length
 |[]=>rfl
 |x::xs=>by simp[b8,kD id dv xs]
theorem g9 (id:Nat) (dv:DV):∀ (rs:List (List SV)),(cF id dv rs).flatten=b8 id dv rs.flatten
 |[]=>rfl
 |r::rs=>by simp[cF,oI,g9 id dv rs]
theorem gM (id:Nat) (dv:DV):∀ (rs:List (List SV)),(cF id dv rs).length=rs.length
 |[]=>rfl
 |r::rs=>by simp[cF,gM id dv rs]
theorem mW (id:Nat) (dv:DV) (sz:Nat):∀ (rs:List (List SV)),(∀ r∈rs,r.length=sz)->∀ r∈cF id dv rs,r.length=sz
 |[],_,r,hr=>by simp[cF] at hr
 |q::rs,h,r,hr=>by
  simp only[cF,Li] at hr
  rcases hr with rfl|hr
  ·rw[kD];exact h q oS
  ·exact mW id dv sz rs (fun r hr=>h r (by simp[hr])) r hr
section
variable {w w':World} {M M':Nat->Prop} {κ:Nat->Value} {id:Nat} {dv:DV} {v:Value}
mutual
theorem fa (h:gh w M w' M') (hd:aJ w' M' dv (κ id)):∀ (x:SV) (u:Value),ag w M κ x u->ag w' M' (ak κ id v) (cr id dv x) u
 | .d x,u,hr=>by simp only[ag,cr] at *;exact hr.ext h
 | .nils,u,hr=>by simp only[ag,cr] at *;exact hr
 | .lit sz n cs,u,hr=>by
  simp only[ag,cr] at *
  obtain⟨b,vs,h1,h2,h3,h4,h5,h6,h7⟩:=hr
  exact⟨b,vs,h1,(h.keep b h3 h2).2,Lz h3 h.size,h4,h5,fun j v hj=>by rw[h.cell h3 h2];exact h6 j v hj,mX h hd cs vs h7⟩
 | .agg cs,u,hr=>by
  simp only[ag,cr] at *
  obtain⟨vs,h1,h2,h3⟩:=hr
  exact⟨vs,h1,h2,mX h hd cs vs h3⟩
 | .tup cs,u,hr=>by
  simp only[ag,cr] at *
  obtain⟨vs,h1,h3⟩:=hr
  exact⟨vs,h1,mX h hd cs vs h3⟩
 | .ref i off,u,hr=>by
  simp only[cr]
  split
  ·simp[ag,aJ]
  ·rename_i hne
   simp only[ag] at *
   rw[aP _ _ _ _ hne];exact hr
 | .vec i,u,hr=>by
  simp only[cr]
  split
  ·rename_i he
   subst he
   simp only[ag] at *;subst hr;exact hd
  ·rename_i hne
   simp only[ag] at *
   rw[aP _ _ _ _ hne];exact hr
 | .vref i sz k off,u,hr=>by
  simp only[cr]
  split
  ·simp[ag,aJ]
  ·rename_i hne
   simp only[ag] at *
   rw[aP _ _ _ _ hne];exact hr
 | .mp i,u,hr=>by
  simp only[cr]
  split
  ·simp[ag,aJ]
  ·rename_i hne
   simp only[ag] at *
   rw[aP _ _ _ _ hne];exact hr
 | .own _ _,u,hr=>by simp only[ag] at hr
theorem mX (h:gh w M w' M') (hd:aJ w' M' dv (κ id)):∀ (cs:List SV) (us:List Value),ai w M κ cs us->ai w' M' (ak κ id v) (b8 id dv cs) us
 |[],us,hr=>by simp only[ai,b8] at *;exact hr
 |c::cs,us,hr=>by
  simp only[ai,b8] at *
  obtain⟨u,us',h1,h2,h3⟩:=hr
  exact⟨u,us',h1,fa h hd c u h2,mX h hd cs us' h3⟩
end
mutual
theorem EK (h:gh w M w' M') (hd:aJ w' M' dv (κ id)):∀ (x:SV) (u:Value) (F:List Nat),(∀ b∈F,w'.heap[b]?=w.heap[b]?)->ao w M κ x u F->ao w' M' (ak κ id v) (cr id dv x) u F
 | .own m d,u,F,hk,hr=>by simp only[ao,cr] at *;exact dz.ext h m d u F hk hr
 | .agg cs,u,F,hk,hr=>by
  simp only[ao,cr] at *
  obtain⟨vs,h1,h2,h3⟩:=hr
  exact⟨vs,h1,h2,rJ h hd cs vs F hk h3⟩
 | .tup cs,u,F,hk,hr=>by
  simp only[ao,cr] at *
  obtain⟨vs,h1,h3⟩:=hr
  exact⟨vs,h1,rJ h hd cs vs F hk h3⟩
 | .d x,u,F,hk,hr=>by simp only[ao] at hr;obtain⟨rfl,hr⟩:=hr;exact ao.of_S _ _ (fa h hd _ _ hr)
 | .nils,u,F,hk,hr=>by simp only[ao] at hr;obtain⟨rfl,hr⟩:=hr;exact ao.of_S _ _ (fa h hd _ _ hr)
 | .lit _ _ _,u,F,hk,hr=>by simp only[ao] at hr;obtain⟨rfl,hr⟩:=hr;exact ao.of_S _ _ (fa h hd _ _ hr)
 | .ref _ _,u,F,hk,hr=>by simp only[ao] at hr;obtain⟨rfl,hr⟩:=hr;exact ao.of_S _ _ (fa h hd _ _ hr)
 | .vec _,u,F,hk,hr=>by simp only[ao] at hr;obtain⟨rfl,hr⟩:=hr;exact ao.of_S _ _ (fa h hd _ _ hr)
 | .vref _ _ _ _,u,F,hk,hr=>by simp only[ao] at hr;obtain⟨rfl,hr⟩:=hr;exact ao.of_S _ _ (fa h hd _ _ hr)
 | .mp _,u,F,hk,hr=>by simp only[ao] at hr;obtain⟨rfl,hr⟩:=hr;exact ao.of_S _ _ (fa h hd _ _ hr)
theorem rJ (h:gh w M w' M') (hd:aJ w' M' dv (κ id)):∀ (cs:List SV) (us:List Value) (F:List Nat),(∀ b∈F,w'.heap[b]?=w.heap[b]?)->aj w M κ cs us F->aj w' M' (ak κ id v) (b8 id dv cs) us F
 |[],us,F,hk,hr=>by simp only[aj,b8] at *;exact hr
 |c::cs,us,F,hk,hr=>by
  simp only[aj,b8] at *
  obtain⟨u,us',F1,F2,h1,rfl,h2,h3⟩:=hr
  exact⟨u,us',F1,F2,h1,rfl,EK h hd c u F1 (fun b hb=>hk b (by simp[hb])) h2,rJ h hd cs us' F2 (fun b hb=>hk b (by simp[hb])) h3⟩
end
theorem vC (h:gh w M w' M') (hd:aJ w' M' dv (κ id)) {kk:KK}:∀ (kv:List (DV×SV)) (es:List MapEntry) (F:List Nat),(∀ b∈F,w'.heap[b]?=w.heap[b]?)->bo w M κ kk kv es F->bo w' M' (ak κ id v) kk (j9 id dv kv) es F
 |[],es,F,hk,hr=>by simp only[bo,j9] at *;exact hr
 |(k,c)::kv,es,F,hk,hr=>by
  simp only[bo,j9] at *
  obtain⟨e,rest,F1,F2,h1,rfl,h2,h3,h4,h5⟩:=hr
  exact⟨e,rest,F1,F2,h1,rfl,h2,h3,EK h hd c _ F1 (fun b hb=>hk b (by simp[hb])) h4,vC h hd kv rest F2 (fun b hb=>hk b (by simp[hb])) h5⟩
theorem rK (h:gh w M w' M') (hd:aJ w' M' dv (κ id)) {j:Nat} (hj:j≠id) {c:Ch} {F:List Nat} (hk:∀ b∈F,w'.heap[b]?=w.heap[b]?) (hc:gY w M κ j c F):gY w' M' (ak κ id v) j (jf id dv c) F:=by
 have hkj:ak κ id v j=κ j:=aP _ _ _ _ hj
 cases c with
 |dead=>exact hc
 |box cs=>
  obtain⟨b,T,vs,G,h1,h2,h3,h4,rfl⟩:=hc
  exact⟨b,T,vs,G,by rw[hkj];exact h1,by rw[hk b oS];exact h2,h3,rJ h hd cs vs G (fun b hb=>hk b (by simp[hb])) h4,rfl⟩
 |vec e sz rows=>
  obtain⟨xs,G,h1,h2,h3,h4,rfl⟩:=hc
  refine⟨xs,G,by rw[hkj,gM];exact oE (fun b hb=>hk b (by simp[hb])) h1,h2,mW id dv sz rows h3, ?_,by rw[hkj]⟩
  rw[g9]
  exact rJ h hd _ xs G (fun b hb=>hk b (by simp[hb])) h4
 |map kk kv=>
  obtain⟨r,es,clock,G,h1,h2,hB,h3,rfl⟩:=hc
  exact⟨r,es,clock,G,by rw[hkj];exact h1,by rw[hk r oS];exact h2,hB,vC h hd kv es G (fun b hb=>hk b (by simp[hb])) h3,rfl⟩
 |bld T e bs=>show tL w' T e bs (ak κ id v j) F;rw[hkj];exact tL.ext hk hc
end
section
variable {P:Program} {c:Cx} {σ:St} {κ:Nat->Value} {φ:Nat->List Nat} {a:Act} {w:World}
theorem mY (hr:b_ c σ κ φ a w) {id:Nat} {F':List Nat} {w':World} (hsize:w.heap.size<=w'.heap.size)
  (hkeep:∀ b,b<w.heap.size->b∉φ id->w'.heap[b]?=w.heap[b]?) (hF:∀ b∈F',(w.heap.size<=b\/b∈φ id)/\b<w'.heap.size):
  gh w (own c φ) w' (own c (ak φ id F')):=by
 refine⟨hsize,fun b hb hm=>⟨hkeep b hb fun h1=>hm (.inr ⟨id,h1⟩), ?_⟩⟩
 rintro(h0|⟨j,hj⟩)
 ·exact hm (.inl h0)
 ·by_cases hji:j=id
  ·subst hji
   rw[al] at hj
   rcases(hF b hj).1 with h1|h1
   ·omega
   ·exact hm (.inr ⟨j,h1⟩)
  ·rw[aP _ _ _ _ hji] at hj
   exact hm (.inr ⟨j,hj⟩)
theorem b_.swap (hr:b_ c σ κ φ a w) {id:Nat} {v:Value} {dv:DV} {ch:Ch} {F':List Nat} {w':World} (hone:v.oneCell'=true)
  (hos:w'.os=w.os) (htape:w'.tape=w.tape) (hout:w'.output=w.output) (hsize:w.heap.size<=w'.heap.size)
  (hkeep:∀ b,b<w.heap.size->b∉φ id->w'.heap[b]?=w.heap[b]?)
  (hF:∀ b∈F',(w.heap.size<=b\/b∈φ id)/\b<w'.heap.size) (hnod:F'.Nodup)
  (hd:aJ w' (own c (ak φ id F')) dv (κ id))
  (hc:gY w' (own c (ak φ id F')) (ak κ id v) id ch F'):b_ c (σ.swap id dv ch) (ak κ id v) (ak φ id F') a w':=by
 have hext:=mY hr hsize hkeep hF
 refine⟨hr.chg.trans ⟨hos,htape,hout,hsize,fun b hb hA=>hkeep b (Lz hb hr.size) fun hbi=> ?_⟩,LO hr.size hsize,hr.m0,hr.ntmps,hr.defers,fun j=> ?_,fun i hi=>fa hext hd _ _ (hr.slots i hi),fun i v hv=>fa hext hd _ _ (hr.ghost i v hv),fun j=> ?_,fun j b hb=> ?_,fun j=> ?_, ?_⟩
 ·rcases(hr.mine id b hbi).2 with h|h
  ·omega
  ·exact hA h
 ·by_cases hji:j=id
  ·subst hji;rw[al];exact hone
  ·rw[aP _ _ _ _ hji];exact hr.kok j
 ·by_cases hji:j=id
  ·subst hji
   rw[show(σ.swap j dv ch).h j=ch by simp[St.swap,al],al];exact hc
  ·rw[show(σ.swap id dv ch).h j=jf id dv (σ.h j) by simp[St.swap,aP _ _ _ _ hji,ct],aP _ _ _ _ hji]
   exact rK hext hd hji (fun b hb=>hkeep b (hr.mine j b hb).1 fun hb'=>hr.sep j id b hji hb hb') (hr.chunks j)
 ·by_cases hji:j=id
  ·subst hji
   rw[al] at hb
   refine⟨(hF b hb).2, ?_⟩
   rcases(hF b hb).1 with h|h
   ·exact .inl (LO hr.size h)
   ·exact(hr.mine j b h).2
  ·rw[aP _ _ _ _ hji] at hb
   exact⟨Lz (hr.mine j b hb).1 hsize,(hr.mine j b hb).2⟩
 ·by_cases hji:j=id
  ·subst hji;rw[al];exact hnod
  ·rw[aP _ _ _ _ hji];exact hr.nod j
 ·have key:∀ j b,j≠id->b∈F'->b∈φ j->False:=fun j b hj h1 h2=>by
   rcases(hF b h1).1 with h|h
   ·have:=(hr.mine j b h2).1;omega
   ·exact hr.sep j id b hj h2 h
  intro i j b hij hi hj
  by_cases hii:i=id
  ·subst hii
   rw[al] at hi;rw[aP _ _ _ _ (Ne.symm hij)] at hj
   exact key j b (Ne.symm hij) hi hj
  ·rw[aP _ _ _ _ hii] at hi
   by_cases hjj:j=id
   ·subst hjj;rw[al] at hj;exact key i b hii hj hi
   ·rw[aP _ _ _ _ hjj] at hj;exact hr.sep i j b hij hi hj
theorem b_.modify (hr:b_ c σ κ φ a w) {id:Nat} {ch:Ch} {F':List Nat} {w':World}
  (hos:w'.os=w.os) (htape:w'.tape=w.tape) (hout:w'.output=w.output) (hsize:w'.heap.size=w.heap.size)
  (hkeep:∀ b,b∉φ id->w'.heap[b]?=w.heap[b]?) (hF:F'.Sublist (φ id))
  (hc:gh w (own c φ) w' (own c (ak φ id F'))->gY w' (own c (ak φ id F')) κ id ch F'):b_ c ⟨σ.s,ak σ.h id ch⟩ κ (ak φ id F') a w':=by
 have hF':∀ b∈F',(w.heap.size<=b\/b∈φ id)/\b<w'.heap.size:=fun b hb=>⟨.inr (hF.subset hb),by rw[hsize];exact(hr.mine id b (hF.subset hb)).1⟩
 have hext:=mY hr oM (fun b _ hb=>hkeep b hb) hF'
 refine⟨hr.chg.trans ⟨hos,htape,hout,by omega,fun b hb hA=>hkeep b fun hbi=> ?_⟩,by have:=hr.size;omega,hr.m0,hr.ntmps,hr.defers,hr.kok,fun i hi=>ag.ext hext _ _ (hr.slots i hi),fun i v hv=>ag.ext hext _ _ (hr.ghost i v hv),fun j=> ?_,fun j b hb=> ?_,fun j=> ?_, ?_⟩
 ·rcases(hr.mine id b hbi).2 with h|h
  ·omega
  ·exact hA h
 ·by_cases hji:j=id
  ·subst hji;dsimp only;rw[al,al];exact hc hext
  ·dsimp only;rw[aP _ _ _ _ hji,aP _ _ _ _ hji]
   exact(hr.chunks j).ext hext fun b hb=>hkeep b fun hb'=>hr.sep j id b hji hb hb'
 ·by_cases hji:j=id
  ·subst hji;rw[al] at hb;exact⟨(hF' b hb).2,(hr.mine j b (hF.subset hb)).2⟩
  ·rw[aP _ _ _ _ hji] at hb;rw[hsize];exact hr.mine j b hb
 ·by_cases hji:j=id
  ·subst hji;rw[al];exact(hr.nod j).sublist hF
  ·rw[aP _ _ _ _ hji];exact hr.nod j
 ·have sub:∀ i b,b∈ak φ id F' i->b∈φ i:=fun i b hb=>by
   by_cases hii:i=id
   ·subst hii;rw[al] at hb;exact hF.subset hb
   ·rwa[aP _ _ _ _ hii] at hb
  exact fun i j b hij hi hj=>hr.sep i j b hij (sub i b hi) (sub j b hj)
theorem b_.two (hr:b_ c σ κ φ a w) {id id':Nat} {u:Value} {dv:DV} {ch ch':Ch} {G G':List Nat} (hne:id≠id') (hone:u.oneCell'=true)
  (hG:∀ b∈G,b∈φ id\/b∈φ id') (hG':∀ b∈G',b∈φ id\/b∈φ id') (hn:G.Nodup) (hn':G'.Nodup) (hdis:∀ b∈G,b∉G')
  (hd:aJ w (own c (ak (ak φ id G) id' G')) dv (κ id'))
  (hc:gh w (own c φ) w (own c (ak (ak φ id G) id' G'))->gY w (own c (ak (ak φ id G) id' G')) (ak κ id' u) id ch G)
  (hc':gh w (own c φ) w (own c (ak (ak φ id G) id' G'))->gY w (own c (ak (ak φ id G) id' G')) (ak κ id' u) id' ch' G'):
  b_ c ⟨ca id' dv σ.s,ak (ak (ct id' dv σ.h) id ch) id' ch'⟩ (ak κ id' u) (ak (ak φ id G) id' G') a w:=by
 have sub:∀ i b,b∈ak (ak φ id G) id' G' i->∃ k,b∈φ k/\(k=i\/((k=id\/k=id')/\(i=id\/i=id'))):=fun i b hb=>by
  by_cases hi':i=id'
  ·subst hi';rw[al] at hb
   rcases hG' b hb with h|h
   ·exact⟨id,h,.inr ⟨.inl rfl,.inr rfl⟩⟩
   ·exact⟨i,h,.inl rfl⟩
  ·rw[aP _ _ _ _ hi'] at hb
   by_cases hi:i=id
   ·subst hi;rw[al] at hb
    rcases hG b hb with h|h
    ·exact⟨i,h,.inl rfl⟩
    ·exact⟨id',h,.inr ⟨.inr rfl,.inl rfl⟩⟩
   ·rw[aP _ _ _ _ hi] at hb;exact⟨i,hb,.inl rfl⟩
 have hext:gh w (own c φ) w (own c (ak (ak φ id G) id' G')):=gh.shrink fun b hb=>by
  rcases hb with h|⟨i,h⟩
  ·exact .inl h
  ·obtain⟨k,hk,_⟩:=sub i b h;exact .inr ⟨k,hk⟩
 refine⟨hr.chg,hr.size,hr.m0,hr.ntmps,hr.defers,fun j=> ?_,fun i hi=>fa hext hd _ _ (hr.slots i hi),fun i v hv=>fa hext hd _ _ (hr.ghost i v hv),fun j=> ?_,fun j b hb=> ?_,fun j=> ?_, ?_⟩
 ·by_cases hj:j=id'
  ·subst hj;rw[al];exact hone
  ·rw[aP _ _ _ _ hj];exact hr.kok j
 ·by_cases hj':j=id'
  ·subst hj';simp only[al];exact hc' hext
  ·dsimp only;rw[aP _ _ _ _ hj',aP _ _ _ _ hj']
   by_cases hj:j=id
   ·subst hj;rw[al,al];exact hc hext
   ·rw[aP _ _ _ _ hj,aP _ _ _ _ hj]
    exact rK hext hd hj' (fun _ _=>rfl) (hr.chunks j)
 ·obtain⟨k,hk,_⟩:=sub j b hb;exact hr.mine k b hk
 ·by_cases hj':j=id'
  ·subst hj';rw[al];exact hn'
  ·rw[aP _ _ _ _ hj']
   by_cases hj:j=id
   ·subst hj;rw[al];exact hn
   ·rw[aP _ _ _ _ hj];exact hr.nod j
 ·intro i j b hij hi hj
  obtain⟨k,hk,h1⟩:=sub i b hi
  obtain⟨l,hl,h2⟩:=sub j b hj
  have hkl:k=l:=Classical.byContradiction fun hkl=>hr.sep k l b hkl hk hl
  subst hkl
  have both:(i=id\/i=id')/\(j=id\/j=id'):=by
   rcases h1 with rfl|⟨h1,h1'⟩
   ·rcases h2 with rfl|⟨h2,h2'⟩
    ·exact absurd rfl hij
    ·exact⟨h2,h2'⟩
   ·rcases h2 with rfl|⟨h2,h2'⟩
    ·exact⟨h1',h1⟩
    ·exact⟨h1',h2'⟩
  rcases both with⟨rfl|rfl,rfl|rfl⟩
  ·exact hij rfl
  ·rw[aP _ _ _ _ hij,al] at hi;rw[al] at hj;exact hdis b hi hj
  ·rw[al] at hi;rw[aP _ _ _ _ (Ne.symm hij),al] at hj;exact hdis b hj hi
  ·exact hij rfl
mutual
def aL.plain:aL->Bool
 | .sh=>true
 | .sl _ ms=>aL.plains ms
 | .pt ms=>aL.plains ms
 | .mp _ _=>false
 | .bld _ _=>false
def aL.plains:List aL->Bool
 |[]=>true
 |m::ms=>aL.plain m&&aL.plains ms
end
theorem vD {M:Nat->Prop} {e sz:Nat} {v:Value} {rows:List (List DV)} {xs:List Value} (ho:w.ownsRow 0 e sz v rows.length xs) (hone:∀ x∈xs,x.oneCell'=true) (hall:∀ r∈rows,r.length=sz) (hl:an w M rows.flatten xs) (hM:∀ b∈ed v,¬ M b):aJ w M (.slice rows) v:=by
 unfold aJ
 rcases ho.2 with⟨hk,hn⟩|⟨g,cap,cur,hk,hB,hg,hcap,_,hcur,htake⟩
 ·have:rows=[]:=Ld.1 hn
  subst this
  exact⟨none,0,hk,K9 _,fun _=>rfl,.inl rfl⟩
 ·refine⟨some ⟨g,0,none⟩,cap,hk,hcap,by simp,.inr ⟨g,0,sz,rfl,hM g (by simp[ed,hk,oo]),(Lo.1 hg).1, ?_⟩⟩
  rw[aK.iff]
  refine⟨hall,bj.of_row hg hl hone fun j v hj=> ?_⟩
  rw[<-htake,LJ] at hj
  split at hj
  ·simpa using hj
  ·cases hj
theorem dX.flat {R:List DV->List Value->List Nat->Prop} {M:Nat->Prop} {G0:List Nat}:∀ {rows:List (List DV)} {xs:List Value} {G:List Nat},(∀ b∈G,b∈G0)->(∀ r ys G',(∀ b∈G',b∈G0)->R r ys G'->an w M r ys)->dX R rows xs G->an w M rows.flatten xs
 |[],xs,G,_,_,h=>by obtain⟨rfl,_⟩:=h;simp[an]
 |r::rs,xs,G,hG,hR,h=>by
  obtain⟨ys,zs,G1,G2,rfl,rfl,h3,h4⟩:=h
  rw[LC]
  exact(hR r ys G1 (fun b hb=>hG b (by simp[hb])) h3).append (dX.flat (fun b hb=>hG b (by simp[hb])) hR h4)
mutual
theorem dz.frz {M M':Nat->Prop} (hM:∀ b,M' b->M b):∀ (m:aL) (d:DV) (v:Value) (F:List Nat),m.plain=true->(∀ b∈F,¬ M' b)->dz w M m d v F->aJ w M' d v
 | .sh,d,v,F,_,hF,hr=>by unfold dz at hr;exact hr.2.ext (gh.shrink hM)
 | .sl e ms,d,v,F,hp,hF,hr=>by
  unfold dz at hr
  obtain⟨rows,xs,G,rfl,ho,h1,h2,h3,rfl⟩:=hr
  refine vD ho h1 h2 ?_ (fun b hb=>hF b (by simp[hb]))
  exact h3.flat (G0:=G) (fun b hb=>hb) fun r ys G' hG hr=>dy.frz hM ms r ys G' (by simpa[aL.plain] using hp) (fun b hb=>hF b (by simp[hG b hb])) hr
 | .pt ms,d,v,F,hp,hF,hr=>by
  unfold dz at hr
  obtain⟨cs,b,T,vs,G,rfl,rfl,hh,h1,h2,rfl⟩:=hr
  have hl:=dy.frz hM ms cs vs G (by simpa[aL.plain] using hp) (fun b hb=>hF b (by simp[hb])) h2
  unfold aJ
  exact⟨b,0,rfl,hF b oS,(Lo.1 hh).1,bj.of_row hh hl h1 oS⟩
 | .mp _ _,d,v,F,hp,_,_=>by simp[aL.plain] at hp
 | .bld _ _,d,v,F,hp,_,_=>by simp[aL.plain] at hp
theorem dy.frz {M M':Nat->Prop} (hM:∀ b,M' b->M b):∀ (ms:List aL) (ds:List DV) (vs:List Value) (F:List Nat),aL.plains ms=true->(∀ b∈F,¬ M' b)->dy w M ms ds vs F->an w M' ds vs
 |[],ds,vs,F,_,_,hr=>by unfold dy at hr;obtain⟨rfl,rfl,_⟩:=hr;unfold an;rfl
 |m::ms,ds,vs,F,hp,hF,hr=>by
  unfold dy at hr
  obtain⟨d,ds',v,vs',F1,F2,rfl,rfl,rfl,h3,h4⟩:=hr
  simp only[aL.plains,K1] at hp
  unfold an
  exact⟨v,vs',rfl,dz.frz hM m d v F1 hp.1 (fun b hb=>hF b (by simp[hb])) h3,dy.frz hM ms ds' vs' F2 hp.2 (fun b hb=>hF b (by simp[hb])) h4⟩
end
def SV.frz:SV->Option DV
 | .own m v=>if m.plain then some v else none
 | .d v=>some v
 | .nils=>some (.slice [])
 | .lit sz n cs=>SV.toDV (.lit sz n cs)
 |_=>none
def SV.frzs:List SV->Option (List DV)
 |[]=>some []
 |c::cs=>match SV.frz c,SV.frzs cs with|some x,some xs=>some (x::xs)|_,_=>none
def SV.frzR:List (List SV)->Option (List (List DV))
 |[]=>some []
 |r::rs=>match SV.frzs r,SV.frzR rs with|some x,some xs=>some (x::xs)|_,_=>none
theorem lf {M M':Nat->Prop} (hM:∀ b,M' b->M b) {x:SV} {u:Value} {F:List Nat} {d:DV} (hF:∀ b∈F,¬ M' b) (hr:ao w M κ x u F) (h:x.frz=some d):aJ w M' d u:=by
 cases x with
 |own m d'=>
  simp only[SV.frz] at h
  split at h
  ·rename_i hp
   simp only[K0] at h;subst h
   simp only[ao] at hr
   exact hr.frz hM m _ u F hp hF
  ·cases h
 |d v=>exact(ag.toDV (.d v) _ _ (by simp only[ao] at hr;exact hr.2) (by simpa only[SV.frz,SV.toDV] using h)).ext (gh.shrink hM)
 |nils=>exact(ag.toDV .nils _ _ (by simp only[ao] at hr;exact hr.2) (by simpa only[SV.frz,SV.toDV] using h)).ext (gh.shrink hM)
 |lit sz n cs=>exact(ag.toDV (.lit sz n cs) _ _ (by simp only[ao] at hr;exact hr.2) (by simpa only[SV.frz] using h)).ext (gh.shrink hM)
 |_=>simp[SV.frz] at h
theorem Ao {M M':Nat->Prop} (hM:∀ b,M' b->M b):∀ {cs:List SV} {us:List Value} {F:List Nat} {ds:List DV},(∀ b∈F,¬ M' b)->aj w M κ cs us F->SV.frzs cs=some ds->an w M' ds us
 |[],us,F,ds,hF,hr,h=>by
  simp only[SV.frzs,K0] at h;subst h
  simp only[aj] at hr;unfold an;exact hr.1
 |c::cs,us,F,ds,hF,hr,h=>by
  simp only[SV.frzs] at h
  split at h
  ·rename_i x xs hx hxs
   simp only[K0] at h;subst h
   simp only[aj] at hr
   obtain⟨u,us',F1,F2,rfl,rfl,h1,h2⟩:=hr
   unfold an
   exact⟨u,us',rfl,lf hM (fun b hb=>hF b (by simp[hb])) h1 hx,Ao hM (fun b hb=>hF b (by simp[hb])) h2 hxs⟩
  ·cases h
theorem tV:∀ (xs ys:List SV),SV.frzs (xs++ys)=match SV.frzs xs,SV.frzs ys with|some a,some b=>some (a++b)|_,_=>none
 |[],ys=>by simp only[Lk,SV.frzs];cases SV.frzs ys<;>rfl
 |x::xs,ys=>by
  simp only[Lw,SV.frzs,tV xs ys]
  cases SV.frz x<;>cases SV.frzs xs<;>cases SV.frzs ys<;>rfl
theorem tW:∀ {xs:List SV} {ds:List DV},SV.frzs xs=some ds->ds.length=xs.length
 |[],ds,h=>by simp only[SV.frzs,K0] at h;subst h;rfl
 |x::xs,ds,h=>by
  simp only[SV.frzs] at h
  split at h
  ·rename_i y ys hy hys
   simp only[K0] at h;subst h
   simp[tW hys]
  ·cases h
theorem x7:∀ {rows:List (List SV)} {ds:List (List DV)},SV.frzR rows=some ds->SV.frzs rows.flatten=some ds.flatten/\ds.length=rows.length/\∀ sz,(∀ r∈rows,r.length=sz)->∀ r∈ds,r.length=sz
 |[],ds,h=>by simp only[SV.frzR,K0] at h;subst h;simp[SV.frzs]
 |r::rows,ds,h=>by
  simp only[SV.frzR] at h
  split at h
  ·rename_i x xs hx hxs
   simp only[K0] at h;subst h
   obtain⟨h1,h2,h3⟩:=x7 hxs
   refine⟨by simp only[LC,tV,hx,h1],by simp[h2],fun sz hall q hq=> ?_⟩
   simp only[Li] at hq
   rcases hq with rfl|hq
   ·rw[tW hx];exact hall r oS
   ·exact h3 sz (fun r hr=>hall r (by simp[hr])) q hq
  ·cases h
theorem CB {M M':Nat->Prop} (hM:∀ b,M' b->M b) {id e sz:Nat} {rows:List (List SV)} {F:List Nat} {ds:List (List DV)} (hF:∀ b∈F,¬ M' b) (hr:gY w M κ id (.vec e sz rows) F) (h:SV.frzR rows=some ds):aJ w M' (.slice ds) (κ id):=by
 obtain⟨xs,G,h1,h2,h3,h4,rfl⟩:=hr
 obtain⟨k1,k2,k3⟩:=x7 h
 exact vD (by rw[k2];exact h1) h2 (k3 sz h3) (Ao hM (fun b hb=>hF b (by simp[hb])) h4 k1) (fun b hb=>hF b (by simp[hb]))
theorem b_.drop (hr:b_ c σ κ φ a w) (id:Nat):b_ c ⟨σ.s,ak σ.h id .dead⟩ κ (ak φ id []) a w:=
 hr.modify rfl rfl rfl rfl (fun _ _=>rfl) (List.nil_sublist _) (fun _=>rfl)
theorem b_.vecnil (hr:b_ c σ κ φ a w) {id e sz slot:Nat} (hs:σ.s slot= .nils):b_ c {σ.swap id .any (.vec e sz []) with s:=ak (ca id .any σ.s) slot (.vec id)} (ak κ id (.slice none 0 0)) (ak φ id []) a w:=by
 have h1:b_ c (σ.swap id .any (.vec e sz [])) (ak κ id (.slice none 0 0)) (ak φ id []) a w:=by
  refine hr.swap rfl rfl rfl rfl (K9 _) (fun _ _ _=>rfl) oS oS (by unfold aJ;trivial) ?_
  simp only[gY]
  exact⟨[],[],by rw[al];exact World.ownsRow_nil w 0 e sz,by simp,by simp,by simp[aj],by rw[al];rfl⟩
 have key:∀ i v,ag w (own c φ) κ (σ.s i) v->ag w (own c (ak φ id [])) (ak κ id (.slice none 0 0)) ((σ.swap id .any (.vec e sz [])).s i) v->ag w (own c (ak φ id [])) (ak κ id (.slice none 0 0)) (ak (ca id .any σ.s) slot (.vec id) i) v:=fun i v h0 hv=>by
  by_cases hi':i=slot
  ·subst hi'
   rw[hs] at h0
   simp only[ag] at h0
   simp only[al,ag]
   exact h0
  ·simp only[aP _ _ _ _ hi']
   exact hv
 exact⟨h1.chg,h1.size,h1.m0,h1.ntmps,h1.defers,h1.kok,fun i hi=>key i _ (hr.slots i hi) (h1.slots i hi),fun i v hv=>key _ v (hr.ghost i v hv) (h1.ghost i v hv),h1.chunks,h1.mine,h1.nod,h1.sep⟩
end
end Go.Proofs.YtgmnipfafmphaaaGreatDoor

