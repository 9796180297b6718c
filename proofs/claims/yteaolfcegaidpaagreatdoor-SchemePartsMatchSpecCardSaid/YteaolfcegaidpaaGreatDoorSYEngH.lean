/-
  My text.
-/
import Derived.Test.YteaolfcegaidpaaGreatDoorSYEngG
namespace Go.Proofs.YteaolfcegaidpaaGreatDoor
set_option linter.unusedSimpArgs false
set_option linter.unusedVariables false
open Go.RowKit
def Bf (id:Nat):List Nat->Bool
 |[]=>false
 |i::l=>if i=id then true else Bf id l
theorem C0 {id:Nat}:∀ {l:List Nat},Bf id l=false->∀ i∈l,i≠id
 |j::l,h,i,hi=>by
  unfold Bf at h
  split at h
  ·cases h
  ·rename_i hj
   rcases ON.1 hi with rfl|hi
   ·exact hj
   ·exact C0 h i hi
def I_ (f:FuncId) (l:List Nat):Bool->SV
 |true=> .d .any
 |false=> .clo f l
mutual
def fQ (id:Nat) (dv:DV):SV->SV
 | .d v=> .d v
 | .nils=> .nils
 | .lit sz n cs=> .lit sz n (fk id dv cs)
 | .agg cs=> .agg (fk id dv cs)
 | .tup cs=> .tup (fk id dv cs)
 | .ref i off=>if i=id then .d .any else .ref i off
 | .vec i=>if i=id then .d dv else .vec i
 | .vref i sz k off=>if i=id then .d .any else .vref i sz k off
 | .mp i=>if i=id then .d .any else .mp i
 | .clo f l=>I_ f l (Bf id l)
 | .own m v=> .own m v
def fk (id:Nat) (dv:DV):List SV->List SV
 |[]=>[]
 |c::cs=>fQ id dv c::fk id dv cs
end
def rx (id:Nat) (dv:DV):List (List SV)->List (List SV)
 |[]=>[]
 |r::rs=>fk id dv r::rx id dv rs
def Ap (id:Nat) (dv:DV):List (DV×SV)->List (DV×SV)
 |[]=>[]
 |(k,c)::kv=>(k,fQ id dv c)::Ap id dv kv
def Bg (id:Nat) (dv:DV):Ch->Ch
 | .dead=> .dead
 | .box cs=> .box (fk id dv cs)
 | .vec e sz rows=> .vec e sz (rx id dv rows)
 | .map kk kv=> .map kk (Ap id dv kv)
 | .bld T e bs=> .bld T e bs
def gn (id:Nat) (dv:DV) (s:Nat->SV):Nat->SV:=fun i=>fQ id dv (s i)
def lv (id:Nat) (dv:DV) (h:Nat->Ch):Nat->Ch:=fun i=>Bg id dv (h i)
def St.swap (σ:St) (id:Nat) (dv:DV) (c:Ch):St:=⟨gn id dv σ.s,aH (lv id dv σ.h) id c⟩
theorem uB (id:Nat) (dv:DV):∀ (xs ys:List SV),fk id dv (xs++ys)=fk id dv xs++fk id dv ys
 |[],ys=>rfl
 |x::xs,ys=>by simp[fk,uB id dv xs ys]
theorem pc (id:Nat) (dv:DV):∀ (xs:List SV),(fk id dv xs).length=xs.length
 |[]=>rfl
 |x::xs=>by simp[fk,pc id dv xs]
theorem kV (id:Nat) (dv:DV):∀ (rs:List (List SV)),(rx id dv rs).flatten=fk id dv rs.flatten
 |[]=>rfl
 |r::rs=>by simp[rx,uB,kV id dv rs]
theorem mO (id:Nat) (dv:DV):∀ (rs:List (List SV)),(rx id dv rs).length=rs.length
 |[]=>rfl
 |r::rs=>by simp[rx,mO id dv rs]
theorem sE (id:Nat) (dv:DV) (sz:Nat):∀ (rs:List (List SV)),(∀ r∈rs,r.length=sz)->∀ r∈rx id dv rs,r.length=sz
 |[],_,r,hr=>by simp[rx] at hr
 |q::rs,h,r,hr=>by
  simp only[rx,ON] at hr
  rcases hr with rfl|hr
  ·rw[pc];exact h q oS
  ·exact sE id dv sz rs (fun r hr=>h r (by simp[hr])) r hr
section
variable {w w':World} {M M':Nat->Prop} {κ:Nat->Value} {id:Nat} {dv:DV} {v:Value}
mutual
theorem go (h:lL w M w' M') (hd:aQ w' M' dv (κ id)):∀ (x:SV) (u:Value),ae w M κ x u->ae w' M' (aH κ id v) (fQ id dv x) u
 | .d x,u,hr=>by simp only[ae,fQ] at *;exact hr.ext h
 | .nils,u,hr=>by simp only[ae,fQ] at *;exact hr
 | .lit sz n cs,u,hr=>by
  simp only[ae,fQ] at *
  obtain⟨b,vs,h1,h2,h3,h4,h5,h6,h7⟩:=hr
  exact⟨b,vs,h1,(h.keep b h3 h2).2,O4 h3 h.size,h4,h5,fun j v hj=>by rw[h.cell h3 h2];exact h6 j v hj,sF h hd cs vs h7⟩
 | .agg cs,u,hr=>by
  simp only[ae,fQ] at *
  obtain⟨vs,h1,h2,h3⟩:=hr
  exact⟨vs,h1,h2,sF h hd cs vs h3⟩
 | .tup cs,u,hr=>by
  simp only[ae,fQ] at *
  obtain⟨vs,h1,h3⟩:=hr
  exact⟨vs,h1,sF h hd cs vs h3⟩
 | .ref i off,u,hr=>by
  simp only[fQ]
  split
  ·simp[ae,aQ]
  ·rename_i hne
   simp only[ae] at *
   rw[bf _ _ _ _ hne];exact hr
 | .vec i,u,hr=>by
  simp only[fQ]
  split
  ·rename_i he
   subst he
   simp only[ae] at *;subst hr;exact hd
  ·rename_i hne
   simp only[ae] at *
   rw[bf _ _ _ _ hne];exact hr
 | .vref i sz k off,u,hr=>by
  simp only[fQ]
  split
  ·simp[ae,aQ]
  ·rename_i hne
   simp only[ae] at *
   rw[bf _ _ _ _ hne];exact hr
 | .mp i,u,hr=>by
  simp only[fQ]
  split
  ·simp[ae,aQ]
  ·rename_i hne
   simp only[ae] at *
   rw[bf _ _ _ _ hne];exact hr
 | .clo f l,u,hr=>by
  simp only[fQ]
  cases hc:Bf id l with
  |true=>simp[I_,ae,aQ]
  |false=>
   simp only[I_,ae] at *
   have hk:∀ i∈l,aH κ id v i=κ i:=fun i hi=>bf _ _ _ _ (C0 hc i hi)
   refine⟨by rw[hr.1,PM hk],fun i hi=>by rw[hk i hi];exact hr.2 i hi⟩
 | .own _ _,u,hr=>by simp only[ae] at hr
theorem sF (h:lL w M w' M') (hd:aQ w' M' dv (κ id)):∀ (cs:List SV) (us:List Value),ai w M κ cs us->ai w' M' (aH κ id v) (fk id dv cs) us
 |[],us,hr=>by simp only[ai,fk] at *;exact hr
 |c::cs,us,hr=>by
  simp only[ai,fk] at *
  obtain⟨u,us',h1,h2,h3⟩:=hr
  exact⟨u,us',h1,go h hd c u h2,sF h hd cs us' h3⟩
end
mutual
theorem Ja (h:lL w M w' M') (hd:aQ w' M' dv (κ id)):∀ (x:SV) (u:Value) (F:List Nat),(∀ b∈F,w'.heap[b]?=w.heap[b]?)->aK w M κ x u F->aK w' M' (aH κ id v) (fQ id dv x) u F
 | .own m d,u,F,hk,hr=>by simp only[aK,fQ] at *;exact gl.ext h m d u F hk hr
 | .agg cs,u,F,hk,hr=>by
  simp only[aK,fQ] at *
  obtain⟨vs,h1,h2,h3⟩:=hr
  exact⟨vs,h1,h2,x7 h hd cs vs F hk h3⟩
 | .tup cs,u,F,hk,hr=>by
  simp only[aK,fQ] at *
  obtain⟨vs,h1,h3⟩:=hr
  exact⟨vs,h1,x7 h hd cs vs F hk h3⟩
 | .d x,u,F,hk,hr=>by simp only[aK] at hr;obtain⟨rfl,hr⟩:=hr;exact aK.of_S _ _ (go h hd _ _ hr)
 | .nils,u,F,hk,hr=>by simp only[aK] at hr;obtain⟨rfl,hr⟩:=hr;exact aK.of_S _ _ (go h hd _ _ hr)
 | .lit _ _ _,u,F,hk,hr=>by simp only[aK] at hr;obtain⟨rfl,hr⟩:=hr;exact aK.of_S _ _ (go h hd _ _ hr)
 | .ref _ _,u,F,hk,hr=>by simp only[aK] at hr;obtain⟨rfl,hr⟩:=hr;exact aK.of_S _ _ (go h hd _ _ hr)
 | .vec _,u,F,hk,hr=>by simp only[aK] at hr;obtain⟨rfl,hr⟩:=hr;exact aK.of_S _ _ (go h hd _ _ hr)
 | .vref _ _ _ _,u,F,hk,hr=>by simp only[aK] at hr;obtain⟨rfl,hr⟩:=hr;exact aK.of_S _ _ (go h hd _ _ hr)
 | .mp _,u,F,hk,hr=>by simp only[aK] at hr;obtain⟨rfl,hr⟩:=hr;exact aK.of_S _ _ (go h hd _ _ hr)
 | .clo _ _,u,F,hk,hr=>by simp only[aK] at hr;obtain⟨rfl,hr⟩:=hr;exact aK.of_S _ _ (go h hd _ _ hr)
theorem x7 (h:lL w M w' M') (hd:aQ w' M' dv (κ id)):∀ (cs:List SV) (us:List Value) (F:List Nat),(∀ b∈F,w'.heap[b]?=w.heap[b]?)->am w M κ cs us F->am w' M' (aH κ id v) (fk id dv cs) us F
 |[],us,F,hk,hr=>by simp only[am,fk] at *;exact hr
 |c::cs,us,F,hk,hr=>by
  simp only[am,fk] at *
  obtain⟨u,us',F1,F2,h1,rfl,h2,h3⟩:=hr
  exact⟨u,us',F1,F2,h1,rfl,Ja h hd c u F1 (fun b hb=>hk b (by simp[hb])) h2,x7 h hd cs us' F2 (fun b hb=>hk b (by simp[hb])) h3⟩
end
theorem Bh (h:lL w M w' M') (hd:aQ w' M' dv (κ id)) {kk:KK}:∀ (kv:List (DV×SV)) (es:List MapEntry) (F:List Nat),(∀ b∈F,w'.heap[b]?=w.heap[b]?)->bk w M κ kk kv es F->bk w' M' (aH κ id v) kk (Ap id dv kv) es F
 |[],es,F,hk,hr=>by simp only[bk,Ap] at *;exact hr
 |(k,c)::kv,es,F,hk,hr=>by
  simp only[bk,Ap] at *
  obtain⟨e,rest,F1,F2,h1,rfl,h2,h3,h4,h5⟩:=hr
  exact⟨e,rest,F1,F2,h1,rfl,h2,h3,Ja h hd c _ F1 (fun b hb=>hk b (by simp[hb])) h4,Bh h hd kv rest F2 (fun b hb=>hk b (by simp[hb])) h5⟩
theorem x8 (h:lL w M w' M') (hd:aQ w' M' dv (κ id)) {j:Nat} (hj:j≠id) {c:Ch} {F:List Nat} (hk:∀ b∈F,w'.heap[b]?=w.heap[b]?) (hc:kj w M κ j c F):kj w' M' (aH κ id v) j (Bg id dv c) F:=by
 have hkj:aH κ id v j=κ j:=bf _ _ _ _ hj
 cases c with
 |dead=>exact hc
 |box cs=>
  obtain⟨b,T,vs,G,h1,h2,h3,h4,rfl⟩:=hc
  exact⟨b,T,vs,G,by rw[hkj];exact h1,by rw[hk b oS];exact h2,h3,x7 h hd cs vs G (fun b hb=>hk b (by simp[hb])) h4,rfl⟩
 |vec e sz rows=>
  obtain⟨xs,G,h1,h2,h3,h4,rfl⟩:=hc
  refine⟨xs,G,by rw[hkj,mO];exact uy (fun b hb=>hk b (by simp[hb])) h1,h2,sE id dv sz rows h3, ?_,by rw[hkj]⟩
  rw[kV]
  exact x7 h hd _ xs G (fun b hb=>hk b (by simp[hb])) h4
 |map kk kv=>
  obtain⟨r,es,clock,G,h1,h2,hB,h3,rfl⟩:=hc
  exact⟨r,es,clock,G,by rw[hkj];exact h1,by rw[hk r oS];exact h2,hB,Bh h hd kv es G (fun b hb=>hk b (by simp[hb])) h3,rfl⟩
 |bld T e bs=>show zL w' T e bs (aH κ id v j) F;rw[hkj];exact zL.ext hk hc
end
section
variable {P:Program} {c:Cx} {σ:St} {κ:Nat->Value} {φ:Nat->List Nat} {a:Act} {w:World}
theorem sG (hr:cE c σ κ φ a w) {id:Nat} {F':List Nat} {w':World} (hsize:w.heap.size<=w'.heap.size)
  (hkeep:∀ b,b<w.heap.size->b∉φ id->w'.heap[b]?=w.heap[b]?) (hF:∀ b∈F',(w.heap.size<=b\/b∈φ id)/\b<w'.heap.size):
  lL w (own c φ) w' (own c (aH φ id F')):=by
 refine⟨hsize,fun b hb hm=>⟨hkeep b hb fun h1=>hm (.inr ⟨id,h1⟩), ?_⟩⟩
 rintro(h0|⟨j,hj⟩)
 ·exact hm (.inl h0)
 ·by_cases hji:j=id
  ·subst hji
   rw[an] at hj
   rcases(hF b hj).1 with h1|h1
   ·omega
   ·exact hm (.inr ⟨j,h1⟩)
  ·rw[bf _ _ _ _ hji] at hj
   exact hm (.inr ⟨j,hj⟩)
theorem cE.swap (hr:cE c σ κ φ a w) {id:Nat} {v:Value} {dv:DV} {ch:Ch} {F':List Nat} {w':World} (hone:v.oneCell'=true)
  (hos:w'.os=w.os) (htape:w'.tape=w.tape) (hout:w'.output=w.output) (hsize:w.heap.size<=w'.heap.size)
  (hkeep:∀ b,b<w.heap.size->b∉φ id->w'.heap[b]?=w.heap[b]?)
  (hF:∀ b∈F',(w.heap.size<=b\/b∈φ id)/\b<w'.heap.size) (hnod:F'.Nodup)
  (hd:aQ w' (own c (aH φ id F')) dv (κ id))
  (hc:kj w' (own c (aH φ id F')) (aH κ id v) id ch F'):cE c (σ.swap id dv ch) (aH κ id v) (aH φ id F') a w':=by
 have hext:=sG hr hsize hkeep hF
 refine⟨hr.chg.trans ⟨hos,htape,hout,hsize,fun b hb hA=>hkeep b (O4 hb hr.size) fun hbi=> ?_⟩,PA hr.size hsize,hr.m0,hr.ntmps,hr.defers,fun j=> ?_,fun i hi=>go hext hd _ _ (hr.slots i hi),fun i v hv=>go hext hd _ _ (hr.ghost i v hv),fun j=> ?_,fun j b hb=> ?_,fun j=> ?_, ?_⟩
 ·rcases(hr.mine id b hbi).2 with h|h
  ·omega
  ·exact hA h
 ·by_cases hji:j=id
  ·subst hji;rw[an];exact hone
  ·rw[bf _ _ _ _ hji];exact hr.kok j
 ·by_cases hji:j=id
  ·subst hji
   rw[show(σ.swap j dv ch).h j=ch by simp[St.swap,an],an];exact hc
  ·rw[show(σ.swap id dv ch).h j=Bg id dv (σ.h j) by simp[St.swap,bf _ _ _ _ hji,lv],bf _ _ _ _ hji]
   exact x8 hext hd hji (fun b hb=>hkeep b (hr.mine j b hb).1 fun hb'=>hr.sep j id b hji hb hb') (hr.chunks j)
 ·by_cases hji:j=id
  ·subst hji
   rw[an] at hb
   refine⟨(hF b hb).2, ?_⟩
   rcases(hF b hb).1 with h|h
   ·exact .inl (PA hr.size h)
   ·exact(hr.mine j b h).2
  ·rw[bf _ _ _ _ hji] at hb
   exact⟨O4 (hr.mine j b hb).1 hsize,(hr.mine j b hb).2⟩
 ·by_cases hji:j=id
  ·subst hji;rw[an];exact hnod
  ·rw[bf _ _ _ _ hji];exact hr.nod j
 ·have key:∀ j b,j≠id->b∈F'->b∈φ j->False:=fun j b hj h1 h2=>by
   rcases(hF b h1).1 with h|h
   ·have:=(hr.mine j b h2).1;omega
   ·exact hr.sep j id b hj h2 h
  intro i j b hij hi hj
  by_cases hii:i=id
  ·subst hii
   rw[an] at hi;rw[bf _ _ _ _ (Ne.symm hij)] at hj
   exact key j b (Ne.symm hij) hi hj
  ·rw[bf _ _ _ _ hii] at hi
   by_cases hjj:j=id
   ·subst hjj;rw[an] at hj;exact key i b hii hj hi
   ·rw[bf _ _ _ _ hjj] at hj;exact hr.sep i j b hij hi hj
theorem cE.modify (hr:cE c σ κ φ a w) {id:Nat} {ch:Ch} {F':List Nat} {w':World}
  (hos:w'.os=w.os) (htape:w'.tape=w.tape) (hout:w'.output=w.output) (hsize:w'.heap.size=w.heap.size)
  (hkeep:∀ b,b∉φ id->w'.heap[b]?=w.heap[b]?) (hF:F'.Sublist (φ id))
  (hc:lL w (own c φ) w' (own c (aH φ id F'))->kj w' (own c (aH φ id F')) κ id ch F'):cE c ⟨σ.s,aH σ.h id ch⟩ κ (aH φ id F') a w':=by
 have hF':∀ b∈F',(w.heap.size<=b\/b∈φ id)/\b<w'.heap.size:=fun b hb=>⟨.inr (hF.subset hb),by rw[hsize];exact(hr.mine id b (hF.subset hb)).1⟩
 have hext:=sG hr oM (fun b _ hb=>hkeep b hb) hF'
 refine⟨hr.chg.trans ⟨hos,htape,hout,by omega,fun b hb hA=>hkeep b fun hbi=> ?_⟩,by have:=hr.size;omega,hr.m0,hr.ntmps,hr.defers,hr.kok,fun i hi=>ae.ext hext _ _ (hr.slots i hi),fun i v hv=>ae.ext hext _ _ (hr.ghost i v hv),fun j=> ?_,fun j b hb=> ?_,fun j=> ?_, ?_⟩
 ·rcases(hr.mine id b hbi).2 with h|h
  ·omega
  ·exact hA h
 ·by_cases hji:j=id
  ·subst hji;dsimp only;rw[an,an];exact hc hext
  ·dsimp only;rw[bf _ _ _ _ hji,bf _ _ _ _ hji]
   exact(hr.chunks j).ext hext fun b hb=>hkeep b fun hb'=>hr.sep j id b hji hb hb'
 ·by_cases hji:j=id
  ·subst hji;rw[an] at hb;exact⟨(hF' b hb).2,(hr.mine j b (hF.subset hb)).2⟩
  ·rw[bf _ _ _ _ hji] at hb;rw[hsize];exact hr.mine j b hb
 ·by_cases hji:j=id
  ·subst hji;rw[an];exact(hr.nod j).sublist hF
  ·rw[bf _ _ _ _ hji];exact hr.nod j
 ·have sub:∀ i b,b∈aH φ id F' i->b∈φ i:=fun i b hb=>by
   by_cases hii:i=id
   ·subst hii;rw[an] at hb;exact hF.subset hb
   ·rwa[bf _ _ _ _ hii] at hb
  exact fun i j b hij hi hj=>hr.sep i j b hij (sub i b hi) (sub j b hj)
theorem cE.two (hr:cE c σ κ φ a w) {id id':Nat} {u:Value} {dv:DV} {ch ch':Ch} {G G':List Nat} (hne:id≠id') (hone:u.oneCell'=true)
  (hG:∀ b∈G,b∈φ id\/b∈φ id') (hG':∀ b∈G',b∈φ id\/b∈φ id') (hn:G.Nodup) (hn':G'.Nodup) (hdis:∀ b∈G,b∉G')
  (hd:aQ w (own c (aH (aH φ id G) id' G')) dv (κ id'))
  (hc:lL w (own c φ) w (own c (aH (aH φ id G) id' G'))->kj w (own c (aH (aH φ id G) id' G')) (aH κ id' u) id ch G)
  (hc':lL w (own c φ) w (own c (aH (aH φ id G) id' G'))->kj w (own c (aH (aH φ id G) id' G')) (aH κ id' u) id' ch' G'):
  cE c ⟨gn id' dv σ.s,aH (aH (lv id' dv σ.h) id ch) id' ch'⟩ (aH κ id' u) (aH (aH φ id G) id' G') a w:=by
 have sub:∀ i b,b∈aH (aH φ id G) id' G' i->∃ k,b∈φ k/\(k=i\/((k=id\/k=id')/\(i=id\/i=id'))):=fun i b hb=>by
  by_cases hi':i=id'
  ·subst hi';rw[an] at hb
   rcases hG' b hb with h|h
   ·exact⟨id,h,.inr ⟨.inl rfl,.inr rfl⟩⟩
   ·exact⟨i,h,.inl rfl⟩
  ·rw[bf _ _ _ _ hi'] at hb
   by_cases hi:i=id
   ·subst hi;rw[an] at hb
    rcases hG b hb with h|h
    ·exact⟨i,h,.inl rfl⟩
    ·exact⟨id',h,.inr ⟨.inr rfl,.inl rfl⟩⟩
   ·rw[bf _ _ _ _ hi] at hb;exact⟨i,hb,.inl rfl⟩
 have hext:lL w (own c φ) w (own c (aH (aH φ id G) id' G')):=lL.shrink fun b hb=>by
  rcases hb with h|⟨i,h⟩
  ·exact .inl h
  ·obtain⟨k,hk,_⟩:=sub i b h;exact .inr ⟨k,hk⟩
 refine⟨hr.chg,hr.size,hr.m0,hr.ntmps,hr.defers,fun j=> ?_,fun i hi=>go hext hd _ _ (hr.slots i hi),fun i v hv=>go hext hd _ _ (hr.ghost i v hv),fun j=> ?_,fun j b hb=> ?_,fun j=> ?_, ?_⟩
 ·by_cases hj:j=id'
  ·subst hj;rw[an];exact hone
  ·rw[bf _ _ _ _ hj];exact hr.kok j
 ·by_cases hj':j=id'
  ·subst hj';simp only[an];exact hc' hext
  ·dsimp only;rw[bf _ _ _ _ hj',bf _ _ _ _ hj']
   by_cases hj:j=id
   ·subst hj;rw[an,an];exact hc hext
   ·rw[bf _ _ _ _ hj,bf _ _ _ _ hj]
    exact x8 hext hd hj' (fun _ _=>rfl) (hr.chunks j)
 ·obtain⟨k,hk,_⟩:=sub j b hb;exact hr.mine k b hk
 ·by_cases hj':j=id'
  ·subst hj';rw[an];exact hn'
  ·rw[bf _ _ _ _ hj']
   by_cases hj:j=id
   ·subst hj;rw[an];exact hn
   ·rw[bf _ _ _ _ hj];exact hr.nod j
 ·intro i j b hij hi hj
  obtain⟨k,hk,h1⟩:=sub i b hi
  obtain⟨l,hl,h2⟩:=sub j b hj
  have hkl:k=l:=Classical.byContradiction fun hkl=>hr.sep k l b hkl hk hl
  subst hkl
  have both:(i=id\/i=id')/\(j=id\/j=id'):=by
   rcases h1 with rfl|⟨h1,h1'⟩
   ·rcases h2 with rfl|⟨h2,h2'⟩
    ·exact absurd rfl hij
    ·exact⟨h2,h2'⟩
   ·rcases h2 with rfl|⟨h2,h2'⟩
    ·exact⟨h1',h1⟩
    ·exact⟨h1',h2'⟩
  rcases both with⟨rfl|rfl,rfl|rfl⟩
  ·exact hij rfl
  ·rw[bf _ _ _ _ hij,an] at hi;rw[an] at hj;exact hdis b hi hj
  ·rw[an] at hi;rw[bf _ _ _ _ (Ne.symm hij),an] at hj;exact hdis b hj hi
  ·exact hij rfl
mutual
def cB.plain:cB->Bool
 | .sh=>true
 | .sl _ ms=>cB.plains ms
 | .pt ms=>cB.plains ms
 | .mp _ _=>false
 | .bld _ _=>false
def cB.plains:List cB->Bool
 |[]=>true
 |m::ms=>cB.plain m&&cB.plains ms
end
theorem Bi {M:Nat->Prop} {e sz:Nat} {v:Value} {rows:List (List DV)} {xs:List Value} (ho:w.ownsRow 0 e sz v rows.length xs) (hone:∀ x∈xs,x.oneCell'=true) (hall:∀ r∈rows,r.length=sz) (hl:aI w M rows.flatten xs) (hM:∀ b∈kh v,¬ M b):aQ w M (.slice rows) v:=by
 unfold aQ
 rcases ho.2 with⟨hk,hn⟩|⟨g,cap,cur,hk,hB,hg,hcap,_,hcur,htake⟩
 ·have:rows=[]:=OX.1 hn
  subst this
  exact⟨none,0,hk,OH _,fun _=>rfl,.inl rfl⟩
 ·refine⟨some ⟨g,0,none⟩,cap,hk,hcap,by simp,.inr ⟨g,0,sz,rfl,hM g (by simp[kh,hk,wX]),(Pw.1 hg).1, ?_⟩⟩
  rw[aS.iff]
  refine⟨hall,bO.of_row hg hl hone fun j v hj=> ?_⟩
  rw[<-htake,PJ] at hj
  split at hj
  ·simpa using hj
  ·cases hj
theorem jo.flat {R:List DV->List Value->List Nat->Prop} {M:Nat->Prop} {G0:List Nat}:∀ {rows:List (List DV)} {xs:List Value} {G:List Nat},(∀ b∈G,b∈G0)->(∀ r ys G',(∀ b∈G',b∈G0)->R r ys G'->aI w M r ys)->jo R rows xs G->aI w M rows.flatten xs
 |[],xs,G,_,_,h=>by obtain⟨rfl,_⟩:=h;simp[aI]
 |r::rs,xs,G,hG,hR,h=>by
  obtain⟨ys,zs,G1,G2,rfl,rfl,h3,h4⟩:=h
  rw[O_]
  exact(hR r ys G1 (fun b hb=>hG b (by simp[hb])) h3).append (jo.flat (fun b hb=>hG b (by simp[hb])) hR h4)
mutual
theorem gl.frz {M M':Nat->Prop} (hM:∀ b,M' b->M b):∀ (m:cB) (d:DV) (v:Value) (F:List Nat),m.plain=true->(∀ b∈F,¬ M' b)->gl w M m d v F->aQ w M' d v
 | .sh,d,v,F,_,hF,hr=>by unfold gl at hr;exact hr.2.ext (lL.shrink hM)
 | .sl e ms,d,v,F,hp,hF,hr=>by
  unfold gl at hr
  obtain⟨rows,xs,G,rfl,ho,h1,h2,h3,rfl⟩:=hr
  refine Bi ho h1 h2 ?_ (fun b hb=>hF b (by simp[hb]))
  exact h3.flat (G0:=G) (fun b hb=>hb) fun r ys G' hG hr=>iO.frz hM ms r ys G' (by simpa[cB.plain] using hp) (fun b hb=>hF b (by simp[hG b hb])) hr
 | .pt ms,d,v,F,hp,hF,hr=>by
  unfold gl at hr
  obtain⟨cs,b,T,vs,G,rfl,rfl,hh,h1,h2,rfl⟩:=hr
  have hl:=iO.frz hM ms cs vs G (by simpa[cB.plain] using hp) (fun b hb=>hF b (by simp[hb])) h2
  unfold aQ
  exact⟨b,0,rfl,hF b oS,(Pw.1 hh).1,bO.of_row hh hl h1 oS⟩
 | .mp _ _,d,v,F,hp,_,_=>by simp[cB.plain] at hp
 | .bld _ _,d,v,F,hp,_,_=>by simp[cB.plain] at hp
theorem iO.frz {M M':Nat->Prop} (hM:∀ b,M' b->M b):∀ (ms:List cB) (ds:List DV) (vs:List Value) (F:List Nat),cB.plains ms=true->(∀ b∈F,¬ M' b)->iO w M ms ds vs F->aI w M' ds vs
 |[],ds,vs,F,_,_,hr=>by unfold iO at hr;obtain⟨rfl,rfl,_⟩:=hr;unfold aI;rfl
 |m::ms,ds,vs,F,hp,hF,hr=>by
  unfold iO at hr
  obtain⟨d,ds',v,vs',F1,F2,rfl,rfl,rfl,h3,h4⟩:=hr
  simp only[cB.plains,Oz] at hp
  unfold aI
  exact⟨v,vs',rfl,gl.frz hM m d v F1 hp.1 (fun b hb=>hF b (by simp[hb])) h3,iO.frz hM ms ds' vs' F2 hp.2 (fun b hb=>hF b (by simp[hb])) h4⟩
end
def SV.frz:SV->Option DV
 | .own m v=>if m.plain then some v else none
 | .d v=>some v
 | .nils=>some (.slice [])
 | .lit sz n cs=>SV.toDV (.lit sz n cs)
 |_=>none
def SV.frzs:List SV->Option (List DV)
 |[]=>some []
 |c::cs=>match SV.frz c,SV.frzs cs with|some x,some xs=>some (x::xs)|_,_=>none
def SV.frzR:List (List SV)->Option (List (List DV))
 |[]=>some []
 |r::rs=>match SV.frzs r,SV.frzR rs with|some x,some xs=>some (x::xs)|_,_=>none
theorem x9 {M M':Nat->Prop} (hM:∀ b,M' b->M b) {x:SV} {u:Value} {F:List Nat} {d:DV} (hF:∀ b∈F,¬ M' b) (hr:aK w M κ x u F) (h:x.frz=some d):aQ w M' d u:=by
 cases x with
 |own m d'=>
  simp only[SV.frz] at h
  split at h
  ·rename_i hp
   simp only[Oy] at h;subst h
   simp only[aK] at hr
   exact hr.frz hM m _ u F hp hF
  ·cases h
 |d v=>exact(ae.toDV (.d v) _ _ (by simp only[aK] at hr;exact hr.2) (by simpa only[SV.frz,SV.toDV] using h)).ext (lL.shrink hM)
 |nils=>exact(ae.toDV .nils _ _ (by simp only[aK] at hr;exact hr.2) (by simpa only[SV.frz,SV.toDV] using h)).ext (lL.shrink hM)
 |lit sz n cs=>exact(ae.toDV (.lit sz n cs) _ _ (by simp only[aK] at hr;exact hr.2) (by simpa only[SV.frz] using h)).ext (lL.shrink hM)
 |_=>simp[SV.frz] at h
theorem EO {M M':Nat->Prop} (hM:∀ b,M' b->M b):∀ {cs:List SV} {us:List Value} {F:List Nat} {ds:List DV},(∀ b∈F,¬ M' b)->am w M κ cs us F->SV.frzs cs=some ds->aI w M' ds us
 |[],us,F,ds,hF,hr,h=>by
  simp only[SV.frzs,Oy] at h;subst h
  simp only[am] at hr;unfold aI;exact hr.1
 |c::cs,us,F,ds,hF,hr,h=>by
  simp only[SV.frzs] at h
  split at h
  ·rename_i x xs hx hxs
   simp only[Oy] at h;subst h
   simp only[am] at hr
   obtain⟨u,us',F1,F2,rfl,rfl,h1,h2⟩:=hr
   unfold aI
   exact⟨u,us',rfl,x9 hM (fun b hb=>hF b (by simp[hb])) h1 hx,EO hM (fun b hb=>hF b (by simp[hb])) h2 hxs⟩
  ·cases h
theorem zW:∀ (xs ys:List SV),SV.frzs (xs++ys)=match SV.frzs xs,SV.frzs ys with|some a,some b=>some (a++b)|_,_=>none
 |[],ys=>by simp only[OR,SV.frzs];cases SV.frzs ys<;>rfl
 |x::xs,ys=>by
  simp only[OM,SV.frzs,zW xs ys]
  cases SV.frz x<;>cases SV.frzs xs<;>cases SV.frzs ys<;>rfl
theorem zX:∀ {xs:List SV} {ds:List DV},SV.frzs xs=some ds->ds.length=xs.length
 |[],ds,h=>by simp only[SV.frzs,Oy] at h;subst h;rfl
 |x::xs,ds,h=>by
  simp only[SV.frzs] at h
  split at h
  ·rename_i y ys hy hys
   simp only[Oy] at h;subst h
   simp[zX hys]
  ·cases h
theorem C1:∀ {rows:List (List SV)} {ds:List (List DV)},SV.frzR rows=some ds->SV.frzs rows.flatten=some ds.flatten/\ds.length=rows.length/\∀ sz,(∀ r∈rows,r.length=sz)->∀ r∈ds,r.length=sz
 |[],ds,h=>by simp only[SV.frzR,Oy] at h;subst h;simp[SV.frzs]
 |r::rows,ds,h=>by
  simp only[SV.frzR] at h
  split at h
  ·rename_i x xs hx hxs
   simp only[Oy] at h;subst h
   obtain⟨h1,h2,h3⟩:=C1 hxs
   refine⟨by simp only[O_,zW,hx,h1],by simp[h2],fun sz hall q hq=> ?_⟩
   simp only[ON] at hq
   rcases hq with rfl|hq
   ·rw[zX hx];exact hall r oS
   ·exact h3 sz (fun r hr=>hall r (by simp[hr])) q hq
  ·cases h
theorem DS {M M':Nat->Prop} (hM:∀ b,M' b->M b) {id e sz:Nat} {rows:List (List SV)} {F:List Nat} {ds:List (List DV)} (hF:∀ b∈F,¬ M' b) (hr:kj w M κ id (.vec e sz rows) F) (h:SV.frzR rows=some ds):aQ w M' (.slice ds) (κ id):=by
 obtain⟨xs,G,h1,h2,h3,h4,rfl⟩:=hr
 obtain⟨k1,k2,k3⟩:=C1 h
 exact Bi (by rw[k2];exact h1) h2 (k3 sz h3) (EO hM (fun b hb=>hF b (by simp[hb])) h4 k1) (fun b hb=>hF b (by simp[hb]))
theorem cE.freeze (hr:cE c σ κ φ a w) {id e sz:Nat} {rows:List (List SV)} {ds:List (List DV)} (hv:σ.h id= .vec e sz rows) (hf:SV.frzR rows=some ds):cE c (σ.swap id (.slice ds) .dead) (aH κ id (.pointer none)) (aH φ id []) a w:=by
 refine hr.swap rfl rfl rfl rfl (OH _) (fun _ _ _=>rfl) oS oS ?_ rfl
 have hch:=hr.chunks id
 rw[hv] at hch
 refine DS (M:=own c φ) (fun b hb=> ?_) (fun b hb=> ?_) hch hf
 ·rcases hb with h|⟨j,h⟩
  ·exact .inl h
  ·by_cases hji:j=id
   ·subst hji;rw[an] at h;simp at h
   ·rw[bf _ _ _ _ hji] at h;exact .inr ⟨j,h⟩
 ·rintro(h|⟨j,h⟩)
  ·have h1:=hr.m0 b h
   have h2:=(hr.mine id b hb).2
   rcases h2 with h2|h2
   ·omega
   ·exact h1.2 h2
  ·by_cases hji:j=id
   ·subst hji;rw[an] at h;simp at h
   ·rw[bf _ _ _ _ hji] at h;exact hr.sep j id b hji h hb
theorem cE.drop (hr:cE c σ κ φ a w) (id:Nat):cE c ⟨σ.s,aH σ.h id .dead⟩ κ (aH φ id []) a w:=
 hr.modify rfl rfl rfl rfl (fun _ _=>rfl) (List.nil_sublist _) (fun _=>rfl)
theorem cE.vecnil (hr:cE c σ κ φ a w) {id e sz slot:Nat} (hs:σ.s slot= .nils):cE c {σ.swap id .any (.vec e sz []) with s:=aH (gn id .any σ.s) slot (.vec id)} (aH κ id (.slice none 0 0)) (aH φ id []) a w:=by
 have h1:cE c (σ.swap id .any (.vec e sz [])) (aH κ id (.slice none 0 0)) (aH φ id []) a w:=by
  refine hr.swap rfl rfl rfl rfl (OH _) (fun _ _ _=>rfl) oS oS (by unfold aQ;trivial) ?_
  simp only[kj]
  exact⟨[],[],by rw[an];exact World.ownsRow_nil w 0 e sz,by simp,by simp,by simp[am],by rw[an];rfl⟩
 have key:∀ i v,ae w (own c φ) κ (σ.s i) v->ae w (own c (aH φ id [])) (aH κ id (.slice none 0 0)) ((σ.swap id .any (.vec e sz [])).s i) v->ae w (own c (aH φ id [])) (aH κ id (.slice none 0 0)) (aH (gn id .any σ.s) slot (.vec id) i) v:=fun i v h0 hv=>by
  by_cases hi':i=slot
  ·subst hi'
   rw[hs] at h0
   simp only[ae] at h0
   simp only[an,ae]
   exact h0
  ·simp only[bf _ _ _ _ hi']
   exact hv
 exact⟨h1.chg,h1.size,h1.m0,h1.ntmps,h1.defers,h1.kok,fun i hi=>key i _ (hr.slots i hi) (h1.slots i hi),fun i v hv=>key _ v (hr.ghost i v hv) (h1.ghost i v hv),h1.chunks,h1.mine,h1.nod,h1.sep⟩
end
