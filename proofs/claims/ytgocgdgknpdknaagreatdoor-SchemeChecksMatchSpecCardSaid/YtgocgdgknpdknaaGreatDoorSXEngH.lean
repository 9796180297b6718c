/-
  My text.
-/
import Derived.Test.YtgocgdgknpdknaaGreatDoorSXEngG
namespace Go.Proofs.YtgocgdgknpdknaaGreatDoor
set_option linter.unusedVariables false
open Go.RowKit
mutual
def eI (id:Nat) (dv:DV):SV->SV
 | .d v=> .d v
 | .nils=> .nils
 | .lit sz n cs=> .lit sz n (je id dv cs)
 | .agg cs=> .agg (je id dv cs)
 | .tup cs=> .tup (je id dv cs)
 | .ref i off=>if i=id then .d .any else .ref i off
 | .vec i=>if i=id then .d dv else .vec i
 | .vref i sz k off=>if i=id then .d .any else .vref i sz k off
 | .mp i=>if i=id then .d .any else .mp i
 | .own m v=> .own m v
def je (id:Nat) (dv:DV):List SV->List SV
 |[]=>[]
 |c::cs=>eI id dv c::je id dv cs
end
def qO (id:Nat) (dv:DV):List (List SV)->List (List SV)
 |[]=>[]
 |r::rs=>je id dv r::qO id dv rs
def zF (id:Nat) (dv:DV):List (DV×SV)->List (DV×SV)
 |[]=>[]
 |(k,c)::kv=>(k,eI id dv c)::zF id dv kv
def EI (id:Nat) (dv:DV):Ch->Ch
 | .dead=> .dead
 | .box cs=> .box (je id dv cs)
 | .vec e sz rows=> .vec e sz (qO id dv rows)
 | .map kk kv=> .map kk (zF id dv kv)
 | .bld T e bs=> .bld T e bs
def gE (id:Nat) (dv:DV) (s:Nat->SV):Nat->SV:=fun i=>eI id dv (s i)
def pU (id:Nat) (dv:DV) (h:Nat->Ch):Nat->Ch:=fun i=>EI id dv (h i)
def St.swap (σ:St) (id:Nat) (dv:DV) (c:Ch):St:=⟨gE id dv σ.s,aI (pU id dv σ.h) id c⟩
theorem vT (id:Nat) (dv:DV):∀ (xs ys:List SV),je id dv (xs++ys)=je id dv xs++je id dv ys
 |[],ys=>rfl
 |x::xs,ys=>by simp[je,vT id dv xs ys]
theorem vU (id:Nat) (dv:DV):∀ (xs:List SV),(je id dv xs).length=xs.length
 |[]=>rfl
 |x::xs=>by simp[je,vU id dv xs]
theorem kl (id:Nat) (dv:DV):∀ (rs:List (List SV)),(qO id dv rs).flatten=je id dv rs.flatten
 |[]=>rfl
 |r::rs=>by simp[qO,vT,kl id dv rs]
theorem lQ (id:Nat) (dv:DV):∀ (rs:List (List SV)),(qO id dv rs).length=rs.length
 |[]=>rfl
 |r::rs=>by simp[qO,lQ id dv rs]
theorem qP (id:Nat) (dv:DV) (sz:Nat):∀ (rs:List (List SV)),(∀ r∈rs,r.length=sz)->∀ r∈qO id dv rs,r.length=sz
 |[],_,r,hr=>by simp[qO] at hr
 |q::rs,h,r,hr=>by
  simp only[qO,J2] at hr
  rcases hr with rfl|hr
  ·rw[vU];exact h q oS
  ·exact qP id dv sz rs (fun r hr=>h r (by simp[hr])) r hr
section
variable {w w':World} {M M':Nat->Prop} {κ:Nat->Value} {id:Nat} {dv:DV} {v:Value}
mutual
theorem gn (h:kc w M w' M') (hd:aD w' M' dv (κ id)):∀ (x:SV) (u:Value),ae w M κ x u->ae w' M' (aI κ id v) (eI id dv x) u
 | .d x,u,hr=>by simp only[ae,eI] at *;exact hr.ext h
 | .nils,u,hr=>by simp only[ae,eI] at *;exact hr
 | .lit sz n cs,u,hr=>by
  simp only[ae,eI] at *
  obtain⟨b,vs,h1,h2,h3,h4,h5,h6,h7⟩:=hr
  exact⟨b,vs,h1,(h.keep b h3 h2).2,Kb h3 h.size,h4,h5,fun j v hj=>by rw[h.cell h3 h2];exact h6 j v hj,pu h hd cs vs h7⟩
 | .agg cs,u,hr=>by
  simp only[ae,eI] at *
  obtain⟨vs,h1,h2,h3⟩:=hr
  exact⟨vs,h1,h2,pu h hd cs vs h3⟩
 | .tup cs,u,hr=>by
  simp only[ae,eI] at *
  obtain⟨vs,h1,h3⟩:=hr
  exact⟨vs,h1,pu h hd cs vs h3⟩
 | .ref i off,u,hr=>by
  simp only[eI]
  split
  ·simp[ae,aD]
  ·rename_i hne
   simp only[ae] at *
   rw[bd _ _ _ _ hne];exact hr
 | .vec i,u,hr=>by
  simp only[eI]
  split
  ·rename_i he
   subst he
   simp only[ae] at *;subst hr;exact hd
  ·rename_i hne
   simp only[ae] at *
   rw[bd _ _ _ _ hne];exact hr
 | .vref i sz k off,u,hr=>by
  simp only[eI]
  split
  ·simp[ae,aD]
  ·rename_i hne
   simp only[ae] at *
   rw[bd _ _ _ _ hne];exact hr
 | .mp i,u,hr=>by
  simp only[eI]
  split
  ·simp[ae,aD]
  ·rename_i hne
   simp only[ae] at *
   rw[bd _ _ _ _ hne];exact hr
 | .own _ _,u,hr=>by simp only[ae] at hr
theorem pu (h:kc w M w' M') (hd:aD w' M' dv (κ id)):∀ (cs:List SV) (us:List Value),ai w M κ cs us->ai w' M' (aI κ id v) (je id dv cs) us
 |[],us,hr=>by simp only[ai,je] at *;exact hr
 |c::cs,us,hr=>by
  simp only[ai,je] at *
  obtain⟨u,us',h1,h2,h3⟩:=hr
  exact⟨u,us',h1,gn h hd c u h2,pu h hd cs us' h3⟩
end
mutual
theorem Hr (h:kc w M w' M') (hd:aD w' M' dv (κ id)):∀ (x:SV) (u:Value) (F:List Nat),(∀ b∈F,w'.heap[b]?=w.heap[b]?)->aJ w M κ x u F->aJ w' M' (aI κ id v) (eI id dv x) u F
 | .own m d,u,F,hk,hr=>by simp only[aJ,eI] at *;exact ef.ext h m d u F hk hr
 | .agg cs,u,F,hk,hr=>by
  simp only[aJ,eI] at *
  obtain⟨vs,h1,h2,h3⟩:=hr
  exact⟨vs,h1,h2,xl h hd cs vs F hk h3⟩
 | .tup cs,u,F,hk,hr=>by
  simp only[aJ,eI] at *
  obtain⟨vs,h1,h3⟩:=hr
  exact⟨vs,h1,xl h hd cs vs F hk h3⟩
 | .d x,u,F,hk,hr=>by simp only[aJ] at hr;obtain⟨rfl,hr⟩:=hr;exact aJ.of_S _ _ (gn h hd _ _ hr)
 | .nils,u,F,hk,hr=>by simp only[aJ] at hr;obtain⟨rfl,hr⟩:=hr;exact aJ.of_S _ _ (gn h hd _ _ hr)
 | .lit _ _ _,u,F,hk,hr=>by simp only[aJ] at hr;obtain⟨rfl,hr⟩:=hr;exact aJ.of_S _ _ (gn h hd _ _ hr)
 | .ref _ _,u,F,hk,hr=>by simp only[aJ] at hr;obtain⟨rfl,hr⟩:=hr;exact aJ.of_S _ _ (gn h hd _ _ hr)
 | .vec _,u,F,hk,hr=>by simp only[aJ] at hr;obtain⟨rfl,hr⟩:=hr;exact aJ.of_S _ _ (gn h hd _ _ hr)
 | .vref _ _ _ _,u,F,hk,hr=>by simp only[aJ] at hr;obtain⟨rfl,hr⟩:=hr;exact aJ.of_S _ _ (gn h hd _ _ hr)
 | .mp _,u,F,hk,hr=>by simp only[aJ] at hr;obtain⟨rfl,hr⟩:=hr;exact aJ.of_S _ _ (gn h hd _ _ hr)
theorem xl (h:kc w M w' M') (hd:aD w' M' dv (κ id)):∀ (cs:List SV) (us:List Value) (F:List Nat),(∀ b∈F,w'.heap[b]?=w.heap[b]?)->aj w M κ cs us F->aj w' M' (aI κ id v) (je id dv cs) us F
 |[],us,F,hk,hr=>by simp only[aj,je] at *;exact hr
 |c::cs,us,F,hk,hr=>by
  simp only[aj,je] at *
  obtain⟨u,us',F1,F2,h1,rfl,h2,h3⟩:=hr
  exact⟨u,us',F1,F2,h1,rfl,Hr h hd c u F1 (fun b hb=>hk b (by simp[hb])) h2,xl h hd cs us' F2 (fun b hb=>hk b (by simp[hb])) h3⟩
end
theorem AK (h:kc w M w' M') (hd:aD w' M' dv (κ id)) {kk:KK}:∀ (kv:List (DV×SV)) (es:List MapEntry) (F:List Nat),(∀ b∈F,w'.heap[b]?=w.heap[b]?)->bi w M κ kk kv es F->bi w' M' (aI κ id v) kk (zF id dv kv) es F
 |[],es,F,hk,hr=>by simp only[bi,zF] at *;exact hr
 |(k,c)::kv,es,F,hk,hr=>by
  simp only[bi,zF] at *
  obtain⟨e,rest,F1,F2,h1,rfl,h2,h3,h4,h5⟩:=hr
  exact⟨e,rest,F1,F2,h1,rfl,h2,h3,Hr h hd c _ F1 (fun b hb=>hk b (by simp[hb])) h4,AK h hd kv rest F2 (fun b hb=>hk b (by simp[hb])) h5⟩
theorem xm (h:kc w M w' M') (hd:aD w' M' dv (κ id)) {j:Nat} (hj:j≠id) {c:Ch} {F:List Nat} (hk:∀ b∈F,w'.heap[b]?=w.heap[b]?) (hc:kg w M κ j c F):kg w' M' (aI κ id v) j (EI id dv c) F:=by
 have hkj:aI κ id v j=κ j:=bd _ _ _ _ hj
 cases c with
 |dead=>exact hc
 |box cs=>
  obtain⟨b,T,vs,G,h1,h2,h3,h4,rfl⟩:=hc
  exact⟨b,T,vs,G,by rw[hkj];exact h1,by rw[hk b oS];exact h2,h3,xl h hd cs vs G (fun b hb=>hk b (by simp[hb])) h4,rfl⟩
 |vec e sz rows=>
  obtain⟨xs,G,h1,h2,h3,h4,rfl⟩:=hc
  refine⟨xs,G,by rw[hkj,lQ];exact qM (fun b hb=>hk b (by simp[hb])) h1,h2,qP id dv sz rows h3, ?_,by rw[hkj]⟩
  rw[kl]
  exact xl h hd _ xs G (fun b hb=>hk b (by simp[hb])) h4
 |map kk kv=>
  obtain⟨r,es,clock,G,h1,h2,hB,h3,rfl⟩:=hc
  exact⟨r,es,clock,G,by rw[hkj];exact h1,by rw[hk r oS];exact h2,hB,AK h hd kv es G (fun b hb=>hk b (by simp[hb])) h3,rfl⟩
 |bld T e bs=>show vI w' T e bs (aI κ id v j) F;rw[hkj];exact vI.ext hk hc
end
section
variable {P:Program} {c:Cx} {σ:St} {κ:Nat->Value} {φ:Nat->List Nat} {a:Act} {w:World}
theorem pv (hr:bT c σ κ φ a w) {id:Nat} {F':List Nat} {w':World} (hsize:w.heap.size<=w'.heap.size)
  (hkeep:∀ b,b<w.heap.size->b∉φ id->w'.heap[b]?=w.heap[b]?) (hF:∀ b∈F',(w.heap.size<=b\/b∈φ id)/\b<w'.heap.size):
  kc w (own c φ) w' (own c (aI φ id F')):=by
 refine⟨hsize,fun b hb hm=>⟨hkeep b hb fun h1=>hm (.inr ⟨id,h1⟩), ?_⟩⟩
 rintro(h0|⟨j,hj⟩)
 ·exact hm (.inl h0)
 ·by_cases hji:j=id
  ·subst hji
   rw[am] at hj
   rcases(hF b hj).1 with h1|h1
   ·omega
   ·exact hm (.inr ⟨j,h1⟩)
  ·rw[bd _ _ _ _ hji] at hj
   exact hm (.inr ⟨j,hj⟩)
theorem bT.swap (hr:bT c σ κ φ a w) {id:Nat} {v:Value} {dv:DV} {ch:Ch} {F':List Nat} {w':World} (hone:v.oneCell'=true)
  (hos:w'.os=w.os) (htape:w'.tape=w.tape) (hout:w'.output=w.output) (hsize:w.heap.size<=w'.heap.size)
  (hkeep:∀ b,b<w.heap.size->b∉φ id->w'.heap[b]?=w.heap[b]?)
  (hF:∀ b∈F',(w.heap.size<=b\/b∈φ id)/\b<w'.heap.size) (hnod:F'.Nodup)
  (hd:aD w' (own c (aI φ id F')) dv (κ id))
  (hc:kg w' (own c (aI φ id F')) (aI κ id v) id ch F'):bT c (σ.swap id dv ch) (aI κ id v) (aI φ id F') a w':=by
 have hext:=pv hr hsize hkeep hF
 refine⟨hr.chg.trans ⟨hos,htape,hout,hsize,fun b hb hA=>hkeep b (Kb hb hr.size) fun hbi=> ?_⟩,KF hr.size hsize,hr.m0,hr.ntmps,hr.defers,fun j=> ?_,fun i hi=>gn hext hd _ _ (hr.slots i hi),fun i v hv=>gn hext hd _ _ (hr.ghost i v hv),fun j=> ?_,fun j b hb=> ?_,fun j=> ?_, ?_⟩
 ·rcases(hr.mine id b hbi).2 with h|h
  ·omega
  ·exact hA h
 ·by_cases hji:j=id
  ·subst hji;rw[am];exact hone
  ·rw[bd _ _ _ _ hji];exact hr.kok j
 ·by_cases hji:j=id
  ·subst hji
   rw[show(σ.swap j dv ch).h j=ch by simp[St.swap,am],am];exact hc
  ·rw[show(σ.swap id dv ch).h j=EI id dv (σ.h j) by simp[St.swap,bd _ _ _ _ hji,pU],bd _ _ _ _ hji]
   exact xm hext hd hji (fun b hb=>hkeep b (hr.mine j b hb).1 fun hb'=>hr.sep j id b hji hb hb') (hr.chunks j)
 ·by_cases hji:j=id
  ·subst hji
   rw[am] at hb
   refine⟨(hF b hb).2, ?_⟩
   rcases(hF b hb).1 with h|h
   ·exact .inl (KF hr.size h)
   ·exact(hr.mine j b h).2
  ·rw[bd _ _ _ _ hji] at hb
   exact⟨Kb (hr.mine j b hb).1 hsize,(hr.mine j b hb).2⟩
 ·by_cases hji:j=id
  ·subst hji;rw[am];exact hnod
  ·rw[bd _ _ _ _ hji];exact hr.nod j
 ·have key:∀ j b,j≠id->b∈F'->b∈φ j->False:=fun j b hj h1 h2=>by
   rcases(hF b h1).1 with h|h
   ·have:=(hr.mine j b h2).1;omega
   ·exact hr.sep j id b hj h2 h
  intro i j b hij hi hj
  by_cases hii:i=id
  ·subst hii
   rw[am] at hi;rw[bd _ _ _ _ (Ne.symm hij)] at hj
   exact key j b (Ne.symm hij) hi hj
  ·rw[bd _ _ _ _ hii] at hi
   by_cases hjj:j=id
   ·subst hjj;rw[am] at hj;exact key i b hii hj hi
   ·rw[bd _ _ _ _ hjj] at hj;exact hr.sep i j b hij hi hj
theorem bT.modify (hr:bT c σ κ φ a w) {id:Nat} {ch:Ch} {F':List Nat} {w':World}
  (hos:w'.os=w.os) (htape:w'.tape=w.tape) (hout:w'.output=w.output) (hsize:w'.heap.size=w.heap.size)
  (hkeep:∀ b,b∉φ id->w'.heap[b]?=w.heap[b]?) (hF:F'.Sublist (φ id))
  (hc:kc w (own c φ) w' (own c (aI φ id F'))->kg w' (own c (aI φ id F')) κ id ch F'):bT c ⟨σ.s,aI σ.h id ch⟩ κ (aI φ id F') a w':=by
 have hF':∀ b∈F',(w.heap.size<=b\/b∈φ id)/\b<w'.heap.size:=fun b hb=>⟨.inr (hF.subset hb),by rw[hsize];exact(hr.mine id b (hF.subset hb)).1⟩
 have hext:=pv hr oM (fun b _ hb=>hkeep b hb) hF'
 refine⟨hr.chg.trans ⟨hos,htape,hout,by omega,fun b hb hA=>hkeep b fun hbi=> ?_⟩,by have:=hr.size;omega,hr.m0,hr.ntmps,hr.defers,hr.kok,fun i hi=>ae.ext hext _ _ (hr.slots i hi),fun i v hv=>ae.ext hext _ _ (hr.ghost i v hv),fun j=> ?_,fun j b hb=> ?_,fun j=> ?_, ?_⟩
 ·rcases(hr.mine id b hbi).2 with h|h
  ·omega
  ·exact hA h
 ·by_cases hji:j=id
  ·subst hji;dsimp only;rw[am,am];exact hc hext
  ·dsimp only;rw[bd _ _ _ _ hji,bd _ _ _ _ hji]
   exact(hr.chunks j).ext hext fun b hb=>hkeep b fun hb'=>hr.sep j id b hji hb hb'
 ·by_cases hji:j=id
  ·subst hji;rw[am] at hb;exact⟨(hF' b hb).2,(hr.mine j b (hF.subset hb)).2⟩
  ·rw[bd _ _ _ _ hji] at hb;rw[hsize];exact hr.mine j b hb
 ·by_cases hji:j=id
  ·subst hji;rw[am];exact(hr.nod j).sublist hF
  ·rw[bd _ _ _ _ hji];exact hr.nod j
 ·have sub:∀ i b,b∈aI φ id F' i->b∈φ i:=fun i b hb=>by
   by_cases hii:i=id
   ·subst hii;rw[am] at hb;exact hF.subset hb
   ·rwa[bd _ _ _ _ hii] at hb
  exact fun i j b hij hi hj=>hr.sep i j b hij (sub i b hi) (sub j b hj)
mutual
def bQ.plain:bQ->Bool
 | .sh=>true
 | .sl _ ms=>bQ.plains ms
 | .pt ms=>bQ.plains ms
 | .mp _ _=>false
 | .bld _ _=>false
def bQ.plains:List bQ->Bool
 |[]=>true
 |m::ms=>bQ.plain m&&bQ.plains ms
end
theorem xp {M:Nat->Prop} {e sz:Nat} {v:Value} {rows:List (List DV)} {xs:List Value} (ho:w.ownsRow 0 e sz v rows.length xs) (hone:∀ x∈xs,x.oneCell'=true) (hall:∀ r∈rows,r.length=sz) (hl:av w M rows.flatten xs) (hM:∀ b∈eD v,¬ M b):aD w M (.slice rows) v:=by
 unfold aD
 rcases ho.2 with⟨hk,hn⟩|⟨g,cap,cur,hk,hB,hg,hcap,_,hcur,htake⟩
 ·have:rows=[]:=J7.1 hn
  subst this
  exact⟨none,0,hk,JW _,fun _=>rfl,.inl rfl⟩
 ·refine⟨some ⟨g,0,none⟩,cap,hk,hcap,by simp,.inr ⟨g,0,sz,rfl,hM g (by simp[eD,hk,k9]),(Kn.1 hg).1, ?_⟩⟩
  rw[aE.iff]
  refine⟨hall,aZ.of_row hg hl hone fun j v hj=> ?_⟩
  rw[<-htake,KP] at hj
  split at hj
  ·simpa using hj
  ·cases hj
theorem gc.flat {R:List DV->List Value->List Nat->Prop} {M:Nat->Prop} {G0:List Nat}:∀ {rows:List (List DV)} {xs:List Value} {G:List Nat},(∀ b∈G,b∈G0)->(∀ r ys G',(∀ b∈G',b∈G0)->R r ys G'->av w M r ys)->gc R rows xs G->av w M rows.flatten xs
 |[],xs,G,_,_,h=>by obtain⟨rfl,_⟩:=h;simp[av]
 |r::rs,xs,G,hG,hR,h=>by
  obtain⟨ys,zs,G1,G2,rfl,rfl,h3,h4⟩:=h
  rw[Kv]
  exact(hR r ys G1 (fun b hb=>hG b (by simp[hb])) h3).append (gc.flat (fun b hb=>hG b (by simp[hb])) hR h4)
mutual
theorem ef.frz {M M':Nat->Prop} (hM:∀ b,M' b->M b):∀ (m:bQ) (d:DV) (v:Value) (F:List Nat),m.plain=true->(∀ b∈F,¬ M' b)->ef w M m d v F->aD w M' d v
 | .sh,d,v,F,_,hF,hr=>by unfold ef at hr;exact hr.2.ext (kc.shrink hM)
 | .sl e ms,d,v,F,hp,hF,hr=>by
  unfold ef at hr
  obtain⟨rows,xs,G,rfl,ho,h1,h2,h3,rfl⟩:=hr
  refine xp ho h1 h2 ?_ (fun b hb=>hF b (by simp[hb]))
  exact h3.flat (G0:=G) (fun b hb=>hb) fun r ys G' hG hr=>fB.frz hM ms r ys G' (by simpa[bQ.plain] using hp) (fun b hb=>hF b (by simp[hG b hb])) hr
 | .pt ms,d,v,F,hp,hF,hr=>by
  unfold ef at hr
  obtain⟨cs,b,T,vs,G,rfl,rfl,hh,h1,h2,rfl⟩:=hr
  have hl:=fB.frz hM ms cs vs G (by simpa[bQ.plain] using hp) (fun b hb=>hF b (by simp[hb])) h2
  unfold aD
  exact⟨b,0,rfl,hF b oS,(Kn.1 hh).1,aZ.of_row hh hl h1 oS⟩
 | .mp _ _,d,v,F,hp,_,_=>by simp[bQ.plain] at hp
 | .bld _ _,d,v,F,hp,_,_=>by simp[bQ.plain] at hp
theorem fB.frz {M M':Nat->Prop} (hM:∀ b,M' b->M b):∀ (ms:List bQ) (ds:List DV) (vs:List Value) (F:List Nat),bQ.plains ms=true->(∀ b∈F,¬ M' b)->fB w M ms ds vs F->av w M' ds vs
 |[],ds,vs,F,_,_,hr=>by unfold fB at hr;obtain⟨rfl,rfl,_⟩:=hr;unfold av;rfl
 |m::ms,ds,vs,F,hp,hF,hr=>by
  unfold fB at hr
  obtain⟨d,ds',v,vs',F1,F2,rfl,rfl,rfl,h3,h4⟩:=hr
  simp only[bQ.plains,JO] at hp
  unfold av
  exact⟨v,vs',rfl,ef.frz hM m d v F1 hp.1 (fun b hb=>hF b (by simp[hb])) h3,fB.frz hM ms ds' vs' F2 hp.2 (fun b hb=>hF b (by simp[hb])) h4⟩
end
def SV.frz:SV->Option DV
 | .own m v=>if m.plain then some v else none
 | .d v=>some v
 | .nils=>some (.slice [])
 | .lit sz n cs=>SV.toDV (.lit sz n cs)
 |_=>none
def SV.frzs:List SV->Option (List DV)
 |[]=>some []
 |c::cs=>match SV.frz c,SV.frzs cs with|some x,some xs=>some (x::xs)|_,_=>none
def SV.frzR:List (List SV)->Option (List (List DV))
 |[]=>some []
 |r::rs=>match SV.frzs r,SV.frzR rs with|some x,some xs=>some (x::xs)|_,_=>none
theorem ua {M M':Nat->Prop} (hM:∀ b,M' b->M b) {x:SV} {u:Value} {F:List Nat} {d:DV} (hF:∀ b∈F,¬ M' b) (hr:aJ w M κ x u F) (h:x.frz=some d):aD w M' d u:=by
 cases x with
 |own m d'=>
  simp only[SV.frz] at h
  split at h
  ·rename_i hp
   simp only[JN] at h;subst h
   simp only[aJ] at hr
   exact hr.frz hM m _ u F hp hF
  ·cases h
 |d v=>exact(ae.toDV (.d v) _ _ (by simp only[aJ] at hr;exact hr.2) (by simpa only[SV.frz,SV.toDV] using h)).ext (kc.shrink hM)
 |nils=>exact(ae.toDV .nils _ _ (by simp only[aJ] at hr;exact hr.2) (by simpa only[SV.frz,SV.toDV] using h)).ext (kc.shrink hM)
 |lit sz n cs=>exact(ae.toDV (.lit sz n cs) _ _ (by simp only[aJ] at hr;exact hr.2) (by simpa only[SV.frz] using h)).ext (kc.shrink hM)
 |_=>simp[SV.frz] at h
theorem AL {M M':Nat->Prop} (hM:∀ b,M' b->M b):∀ {cs:List SV} {us:List Value} {F:List Nat} {ds:List DV},(∀ b∈F,¬ M' b)->aj w M κ cs us F->SV.frzs cs=some ds->av w M' ds us
 |[],us,F,ds,hF,hr,h=>by
  simp only[SV.frzs,JN] at h;subst h
  simp only[aj] at hr;unfold av;exact hr.1
 |c::cs,us,F,ds,hF,hr,h=>by
  simp only[SV.frzs] at h
  split at h
  ·rename_i x xs hx hxs
   simp only[JN] at h;subst h
   simp only[aj] at hr
   obtain⟨u,us',F1,F2,rfl,rfl,h1,h2⟩:=hr
   unfold av
   exact⟨u,us',rfl,ua hM (fun b hb=>hF b (by simp[hb])) h1 hx,AL hM (fun b hb=>hF b (by simp[hb])) h2 hxs⟩
  ·cases h
theorem vV:∀ (xs ys:List SV),SV.frzs (xs++ys)=match SV.frzs xs,SV.frzs ys with|some a,some b=>some (a++b)|_,_=>none
 |[],ys=>by simp only[Kd,SV.frzs];cases SV.frzs ys<;>rfl
 |x::xs,ys=>by
  simp only[J5,SV.frzs,vV xs ys]
  cases SV.frz x<;>cases SV.frzs xs<;>cases SV.frzs ys<;>rfl
theorem vW:∀ {xs:List SV} {ds:List DV},SV.frzs xs=some ds->ds.length=xs.length
 |[],ds,h=>by simp only[SV.frzs,JN] at h;subst h;rfl
 |x::xs,ds,h=>by
  simp only[SV.frzs] at h
  split at h
  ·rename_i y ys hy hys
   simp only[JN] at h;subst h
   simp[vW hys]
  ·cases h
theorem yR:∀ {rows:List (List SV)} {ds:List (List DV)},SV.frzR rows=some ds->SV.frzs rows.flatten=some ds.flatten/\ds.length=rows.length/\∀ sz,(∀ r∈rows,r.length=sz)->∀ r∈ds,r.length=sz
 |[],ds,h=>by simp only[SV.frzR,JN] at h;subst h;simp[SV.frzs]
 |r::rows,ds,h=>by
  simp only[SV.frzR] at h
  split at h
  ·rename_i x xs hx hxs
   simp only[JN] at h;subst h
   obtain⟨h1,h2,h3⟩:=yR hxs
   refine⟨by simp only[Kv,vV,hx,h1],by simp[h2],fun sz hall q hq=> ?_⟩
   simp only[J2] at hq
   rcases hq with rfl|hq
   ·rw[vW hx];exact hall r oS
   ·exact h3 sz (fun r hr=>hall r (by simp[hr])) q hq
  ·cases h
theorem zG {M M':Nat->Prop} (hM:∀ b,M' b->M b) {id e sz:Nat} {rows:List (List SV)} {F:List Nat} {ds:List (List DV)} (hF:∀ b∈F,¬ M' b) (hr:kg w M κ id (.vec e sz rows) F) (h:SV.frzR rows=some ds):aD w M' (.slice ds) (κ id):=by
 obtain⟨xs,G,h1,h2,h3,h4,rfl⟩:=hr
 obtain⟨k1,k2,k3⟩:=yR h
 exact xp (by rw[k2];exact h1) h2 (k3 sz h3) (AL hM (fun b hb=>hF b (by simp[hb])) h4 k1) (fun b hb=>hF b (by simp[hb]))
theorem bT.freeze (hr:bT c σ κ φ a w) {id e sz:Nat} {rows:List (List SV)} {ds:List (List DV)} (hv:σ.h id= .vec e sz rows) (hf:SV.frzR rows=some ds):bT c (σ.swap id (.slice ds) .dead) (aI κ id (.pointer none)) (aI φ id []) a w:=by
 refine hr.swap rfl rfl rfl rfl (JW _) (fun _ _ _=>rfl) oS oS ?_ rfl
 have hch:=hr.chunks id
 rw[hv] at hch
 refine zG (M:=own c φ) (fun b hb=> ?_) (fun b hb=> ?_) hch hf
 ·rcases hb with h|⟨j,h⟩
  ·exact .inl h
  ·by_cases hji:j=id
   ·subst hji;rw[am] at h;simp at h
   ·rw[bd _ _ _ _ hji] at h;exact .inr ⟨j,h⟩
 ·rintro(h|⟨j,h⟩)
  ·have h1:=hr.m0 b h
   have h2:=(hr.mine id b hb).2
   rcases h2 with h2|h2
   ·omega
   ·exact h1.2 h2
  ·by_cases hji:j=id
   ·subst hji;rw[am] at h;simp at h
   ·rw[bd _ _ _ _ hji] at h;exact hr.sep j id b hji h hb
theorem bT.drop (hr:bT c σ κ φ a w) (id:Nat):bT c ⟨σ.s,aI σ.h id .dead⟩ κ (aI φ id []) a w:=
 hr.modify rfl rfl rfl rfl (fun _ _=>rfl) (List.nil_sublist _) (fun _=>rfl)
theorem bT.vecnil (hr:bT c σ κ φ a w) {id e sz slot:Nat} (hs:σ.s slot= .nils):bT c {σ.swap id .any (.vec e sz []) with s:=aI (gE id .any σ.s) slot (.vec id)} (aI κ id (.slice none 0 0)) (aI φ id []) a w:=by
 have h1:bT c (σ.swap id .any (.vec e sz [])) (aI κ id (.slice none 0 0)) (aI φ id []) a w:=by
  refine hr.swap rfl rfl rfl rfl (JW _) (fun _ _ _=>rfl) oS oS (by unfold aD;trivial) ?_
  simp only[kg]
  exact⟨[],[],by rw[am];exact World.ownsRow_nil w 0 e sz,by simp,by simp,by simp[aj],by rw[am];rfl⟩
 have key:∀ i v,ae w (own c φ) κ (σ.s i) v->ae w (own c (aI φ id [])) (aI κ id (.slice none 0 0)) ((σ.swap id .any (.vec e sz [])).s i) v->ae w (own c (aI φ id [])) (aI κ id (.slice none 0 0)) (aI (gE id .any σ.s) slot (.vec id) i) v:=fun i v h0 hv=>by
  by_cases hi':i=slot
  ·subst hi'
   rw[hs] at h0
   simp only[ae] at h0
   simp only[am,ae]
   exact h0
  ·simp only[bd _ _ _ _ hi']
   exact hv
 exact⟨h1.chg,h1.size,h1.m0,h1.ntmps,h1.defers,h1.kok,fun i hi=>key i _ (hr.slots i hi) (h1.slots i hi),fun i v hv=>key _ v (hr.ghost i v hv) (h1.ghost i v hv),h1.chunks,h1.mine,h1.nod,h1.sep⟩
end
