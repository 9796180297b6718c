/-
  My text.
-/
import Derived.Test.YteaolfcegaidpaaGreatDoorSZEngRg
namespace Go.Proofs.YteaolfcegaidpaaGreatDoor
set_option linter.unusedSimpArgs false
set_option linter.unusedVariables false
open Go.RowKit
variable {K:Type} {N b n:Nat} {xs:List SV} {α:Type} {G:K->DV}
mutual
def nW (π:Nat->Nat):SV->SV
 | .ref id o=> .ref (π id) o
 | .vec id=> .vec (π id)
 | .vref id sz i o=> .vref (π id) sz i o
 | .mp id=> .mp (π id)
 | .clo f l=> .clo f (l.map π)
 | .agg cs=> .agg (o5 π cs)
 | .tup cs=> .tup (o5 π cs)
 | .lit sz n cs=> .lit sz n (o5 π cs)
 | .d v=> .d v
 | .nils=> .nils
 | .own m v=> .own m v
def o5 (π:Nat->Nat):List SV->List SV
 |[]=>[]
 |c::cs=>nW π c::o5 π cs
end
def EQ (π:Nat->Nat) (rows:List (List SV)):List (List SV):=rows.map (o5 π)
def ER (π:Nat->Nat) (kv:List (DV×SV)):List (DV×SV):=kv.map fun p=>(p.1,nW π p.2)
def Ot (π:Nat->Nat):Ch->Ch
 | .dead=> .dead
 | .box cs=> .box (o5 π cs)
 | .vec e sz rows=> .vec e sz (EQ π rows)
 | .map kk kv=> .map kk (ER π kv)
 | .bld T e bs=> .bld T e bs
theorem B7 (π:Nat->Nat):∀ (xs ys:List SV),o5 π (xs++ys)=o5 π xs++o5 π ys
 |[],_=>rfl
 |x::xs,ys=>by simp only[S_,o5,B7 π xs ys]
theorem B8 (π:Nat->Nat):∀ (xs:List SV),(o5 π xs).length=xs.length
 |[]=>rfl
 |x::xs=>by simp only[o5,S6,B8 π xs]
theorem z6 (π:Nat->Nat):∀ (rs:List (List SV)),(EQ π rs).flatten=o5 π rs.flatten
 |[]=>rfl
 |r::rs=>by
  have:=z6 π rs
  simp only[EQ] at this
  simp only[EQ,S5,TB,this,B7]
section
variable {w:World} {M:Nat->Prop} {κ:Nat->Value} {π:Nat->Nat}
mutual
theorem kV (d:∀ i,π (π i)=i):∀ (x:SV) (u:Value),ah w M κ x u->ah w M (fun i=>κ (π i)) (nW π x) u
 | .ref id o,u,h=>by unfold ah at h;simp only[nW];unfold ah;simp only[d];exact h
 | .vec id,u,h=>by unfold ah at h;simp only[nW];unfold ah;simp only[d];exact h
 | .vref id sz i o,u,h=>by unfold ah at h;simp only[nW];unfold ah;simp only[d];exact h
 | .mp id,u,h=>by unfold ah at h;simp only[nW];unfold ah;simp only[d];exact h
 | .clo f l,u,h=>by
  unfold ah at h;simp only[nW];unfold ah
  refine⟨by rw[h.1,UD];congr 2;exact T3 fun i _=>by simp[d],fun i hi=> ?_⟩
  obtain⟨j,hj,rfl⟩:=Tu.1 hi
  simp only[d];exact h.2 j hj
 | .agg cs,u,h=>by
  unfold ah at h;simp only[nW];unfold ah
  obtain⟨vs,h1,h2,E⟩:=h
  exact⟨vs,h1,h2,z7 d cs vs E⟩
 | .tup cs,u,h=>by
  unfold ah at h;simp only[nW];unfold ah
  obtain⟨vs,h1,E⟩:=h
  exact⟨vs,h1,z7 d cs vs E⟩
 | .lit sz n cs,u,h=>by
  unfold ah at h;simp only[nW];unfold ah
  obtain⟨b,vs,h1,h2,E,h4,h5,h6,h7⟩:=h
  exact⟨b,vs,h1,h2,E,h4,h5,h6,z7 d cs vs h7⟩
 | .d v,u,h=>by unfold ah at h;simp only[nW];unfold ah;exact h
 | .nils,u,h=>by unfold ah at h;simp only[nW];unfold ah;exact h
 | .own m v,u,h=>by unfold ah at h;exact h.elim
theorem z7 (d:∀ i,π (π i)=i):∀ (cs:List SV) (us:List Value),an w M κ cs us->an w M (fun i=>κ (π i)) (o5 π cs) us
 |[],us,h=>by unfold an at h;simp only[o5];unfold an;exact h
 |c::cs,us,h=>by
  unfold an at h;simp only[o5];unfold an
  obtain⟨u,vs,h1,h2,E⟩:=h
  exact⟨u,vs,h1,kV d c u h2,z7 d cs vs E⟩
end
mutual
theorem FA (d:∀ i,π (π i)=i):∀ (x:SV) (u:Value) (F:List Nat),aQ w M κ x u F->aQ w M (fun i=>κ (π i)) (nW π x) u F
 | .own m v,u,F,h=>by unfold aQ at h;simp only[nW];unfold aQ;exact h
 | .agg cs,u,F,h=>by
  unfold aQ at h;simp only[nW];unfold aQ
  obtain⟨vs,h1,h2,E⟩:=h
  exact⟨vs,h1,h2,uK d cs vs F E⟩
 | .tup cs,u,F,h=>by
  unfold aQ at h;simp only[nW];unfold aQ
  obtain⟨vs,h1,E⟩:=h
  exact⟨vs,h1,uK d cs vs F E⟩
 | .d v,u,F,h=>by unfold aQ at h;have:=kV d _ _ h.2;simp only[nW] at this⊢;unfold aQ;exact⟨h.1,this⟩
 | .nils,u,F,h=>by unfold aQ at h;have:=kV d _ _ h.2;simp only[nW] at this⊢;unfold aQ;exact⟨h.1,this⟩
 | .lit sz n cs,u,F,h=>by unfold aQ at h;have:=kV d _ _ h.2;simp only[nW] at this⊢;unfold aQ;exact⟨h.1,this⟩
 | .ref id o,u,F,h=>by unfold aQ at h;have:=kV d _ _ h.2;simp only[nW] at this⊢;unfold aQ;exact⟨h.1,this⟩
 | .vec id,u,F,h=>by unfold aQ at h;have:=kV d _ _ h.2;simp only[nW] at this⊢;unfold aQ;exact⟨h.1,this⟩
 | .vref id sz i o,u,F,h=>by unfold aQ at h;have:=kV d _ _ h.2;simp only[nW] at this⊢;unfold aQ;exact⟨h.1,this⟩
 | .mp id,u,F,h=>by unfold aQ at h;have:=kV d _ _ h.2;simp only[nW] at this⊢;unfold aQ;exact⟨h.1,this⟩
 | .clo f l,u,F,h=>by unfold aQ at h;have:=kV d _ _ h.2;simp only[nW] at this⊢;unfold aQ;exact⟨h.1,this⟩
theorem uK (d:∀ i,π (π i)=i):∀ (cs:List SV) (us:List Value) (F:List Nat),ar w M κ cs us F->ar w M (fun i=>κ (π i)) (o5 π cs) us F
 |[],us,F,h=>by unfold ar at h;simp only[o5];unfold ar;exact h
 |c::cs,us,F,h=>by
  unfold ar at h;simp only[o5];unfold ar
  obtain⟨u,vs,z,I,h1,h2,E,h4⟩:=h
  exact⟨u,vs,z,I,h1,h2,FA d c u z E,uK d cs vs I h4⟩
end
theorem HT (d:∀ i,π (π i)=i) {kk:KK}:∀ (kv:List (DV×SV)) (es:List MapEntry) (F:List Nat),bH w M κ kk kv es F->bH w M (fun i=>κ (π i)) kk (ER π kv) es F
 |[],es,F,h=>by unfold bH at h;simp only[ER,Ui];unfold bH;exact h
 |(k,c)::kv,es,F,h=>by
  unfold bH at h
  obtain⟨e,T,z,I,h1,h2,E,h4,h5,h6⟩:=h
  have ih:=HT d kv T I h6
  simp only[ER] at ih
  simp only[ER,S5]
  unfold bH
  exact⟨e,T,z,I,h1,h2,E,h4,FA d c _ z h5,ih⟩
theorem Mw (d:∀ i,π (π i)=i) {id:Nat} {ch:Ch} {F:List Nat} (h:kK w M κ (π id) ch F):kK w M (fun i=>κ (π i)) id (Ot π ch) F:=by
 cases ch with
 |dead=>exact h
 |box cs=>
  obtain⟨b,T,vs,G,h1,h2,E,h4,h5⟩:=h
  exact⟨b,T,vs,G,h1,h2,E,uK d _ _ _ h4,h5⟩
 |vec e sz rows=>
  obtain⟨xs,G,h1,h2,E,h4,h5⟩:=h
  refine⟨xs,G,by simpa[EQ] using h1,h2,fun r hr=> ?_,by rw[z6];exact uK d _ _ _ h4,h5⟩
  obtain⟨q,hq,rfl⟩:=Tu.1 hr
  rw[B8];exact E q hq
 |map kk kv=>
  obtain⟨r,es,C,G,h1,h2,E,h4,h5⟩:=h
  exact⟨r,es,C,G,h1,h2,E,HT d _ _ _ h4,h5⟩
 |bld T e bs=>exact h
end
def wX (π:Nat->Nat) (σ:St):St:=⟨fun i=>nW π (σ.s i),fun i=>Ot π (σ.h (π i))⟩
section
variable {c:Cx} {σ:St} {κ:Nat->Value} {φ:Nat->List Nat} {a:Act} {w:World} {π:Nat->Nat}
theorem cH.ren (d:∀ i,π (π i)=i) (hr:cH c σ κ φ a w):cH c (wX π σ) (fun i=>κ (π i)) (fun i=>φ (π i)) a w:=by
 have h7:own c (fun i=>φ (π i))=own c φ:=funext fun b=>propext ⟨fun h=>h.imp id fun⟨i,hi⟩=>⟨π i,hi⟩,fun h=>h.imp id fun⟨i,hi⟩=>⟨π i,by show b∈φ (π (π i));rw[d];exact hi⟩⟩
 refine⟨hr.chg,hr.size,hr.m0,hr.ntmps,hr.defers,fun i=>hr.kok (π i),fun i hi=> ?_,fun i v hv=> ?_,fun i=> ?_,fun i b hb=>hr.mine (π i) b hb,fun i=>hr.nod (π i),fun i j b V hi hj=> ?_⟩
 ·rw[h7];exact kV d _ _ (hr.slots i hi)
 ·rw[h7];exact kV d _ _ (hr.ghost i v hv)
 ·rw[h7];exact Mw d (hr.chunks (π i))
 ·exact hr.sep (π i) (π j) b (fun h=>V (by rw[<-d i,h,d])) hi hj
theorem JV (d:∀ i,π (π i)=i):cS σ (wX π σ):=fun _ _ _ _ _ hr=>⟨_,_,hr.ren d⟩
def sw (n b i:Nat):Nat:=if i<n then i+b else if b<=i/\i<b+n then i - b else i
theorem Rm (h:n<=b) (i:Nat):sw n b (sw n b i)=i:=by
 by_cases h1:i<n
 ·have e:sw n b i=i+b:=by unfold sw;rw[Ub h1]
  rw[e];unfold sw
  rw[Ul oM,Ub ⟨by omega,by omega⟩];omega
 ·by_cases h2:b<=i/\i<b+n
  ·have e:sw n b i=i - b:=by unfold sw;rw[Ul h1,Ub h2]
   rw[e];unfold sw
   rw[Ub oM];omega
  ·have e:sw n b i=i:=by unfold sw;rw[Ul h1,Ul h2]
   rw[e,e]
theorem Mx (h:n<=b):cS σ (wX (sw n b) σ):=JV (Rm h)
def My (c:Cx) (a:Act) (N:Nat):Cx:={c with N:=N,gs:=(List.range c.N).map (fun i=>a.tmps.getD i undef)++c.gs}
def Mz (N:Nat) (xs:List SV) (σ:St):St:=⟨fun i=>if i<N then(match xs[i]? with|some x=>x|none=> .d .any) else σ.s (i - N),σ.h⟩
def DD (N:Nat) (dst:Option Nat) (v:SV) (σ:St):St:=⟨match dst with|some d=>aD (fun i=>σ.s (N+i)) d v|none=>fun i=>σ.s (N+i),σ.h⟩
theorem cH.enter (hr:cH c σ κ φ a w) {vs:List Value} (hx:an w (own c φ) κ xs vs) (N:Nat) (S:vs.length<=N):
  cH (My c a N) (Mz N xs σ) κ φ {tmps:=vs.toArray++Array.replicate (N - vs.toArray.size) undef,defers:=[]} w:=by
 have R:∀ {xs:List SV} {vs:List Value} (i:Nat) x,an w (own c φ) κ xs vs->xs[i]?=some x->∃ v,vs[i]?=some v/\ah w (own c φ) κ x v:=by
  intro xs
  induction xs with
  |nil=>intro vs i x _ h;cases h
  |cons y ys ih=>
   intro vs i x h hx
   unfold an at h
   obtain⟨u,us,rfl,h1,h2⟩:=h
   cases i with
   |zero=>simp at hx;subst hx;exact⟨u,rfl,h1⟩
   |succ i=>exact ih i x h2 (by simpa using hx)
 refine⟨hr.chg,hr.size,hr.m0, ?_,rfl,hr.kok,fun i hi=> ?_,fun i v hv=> ?_,hr.chunks,hr.mine,hr.nod,hr.sep⟩
 ·show _=N
  simp;omega
 ·have h5:i<N:=hi
  show ah w (own c φ) κ (if i<N then _ else _) _
  rw[Ub h5]
  cases g:xs[i]? with
  |none=>simp[ah,ba]
  |some x=>
   obtain⟨v,hv,h2⟩:=R i x hx g
   have h9:i<vs.length:=(SY.1 hv).1
   rw[TD,Array.getElem?_append_left (by simpa using h9)]
   simpa[hv] using h2
 ·show ah w (own c φ) κ (if N+i<N then _ else σ.s (N+i - N)) v
  rw[Ul oM,Nat.add_sub_cancel_left]
  have r7:((List.range c.N).map (fun i=>a.tmps.getD i undef)++c.gs)[i]?=some v:=hv
  by_cases h9:i<c.N
  ·rw[TZ (by simpa using h9)] at r7
   simp[h9] at r7
   subst r7
   have:=hr.slots i h9
   simpa[TD] using this
  ·rw[TK oT] at r7
   have:=hr.ghost (i - c.N) v (by simpa using r7)
   rwa[show c.N+(i - c.N)=i by omega] at this
theorem cH.leave {c:Cx} {a a':Act} {σ:St} {κ:Nat->Value} {φ:Nat->List Nat} {w:World} (hn:a.tmps.size=c.N) (hd:a.defers=[]) (hr:cH (My c a N) σ κ φ a' w):cH c ⟨fun i=>σ.s (N+i),σ.h⟩ κ φ a w:=by
 refine⟨hr.chg,hr.size,hr.m0,hn,hd,hr.kok,fun i hi=> ?_,fun i v hv=> ?_,hr.chunks,hr.mine,hr.nod,hr.sep⟩
 ·exact hr.ghost i (a.tmps.getD i undef) (by
   show((List.range c.N).map (fun i=>a.tmps.getD i undef)++c.gs)[i]?=_
   rw[TZ (by simpa using hi)]
   simp[hi])
 ·have:=hr.ghost (c.N+i) v (by
   show((List.range c.N).map (fun i=>a.tmps.getD i undef)++c.gs)[c.N+i]?=_
   rw[TK oS]
   simpa using hv)
  exact this
end
def Qe (P:Program) (b N:Nat) (dst:Option Nat) (qs:List RV) (post:List SO) (K:St->Prop):AX->St->Prop
 | .exit _,_=>False
 |_,σ=>∃ X,cS σ X/\∃ xs,Hg X qs=some xs/\∃ h4,cS (wX (sw 100000 b) (DD N dst (mj xs) X)) h4/\a6 P K post h4
section
variable {P:Program} {c:Cx} {σ:St} {κ:Nat->Value} {φ:Nat->List Nat} {a:Act} {w:World}
theorem B9 {ops:Array Oper} {K:St->Prop} {Q:Exit->Act->World->Prop} {T:List Nat} (hQ:∀ X W h6 a' w',cH c X W h6 a' w'->K X->wpOps P ops Q T a' w'):
  ∀ (sos:List SO) (l:List Oper) (k:Nat) (σ:St) (κ:Nat->Value) (φ:Nat->List Nat) (a:Act) (w:World),(∀ j o,l[j]?=some o->ops[k+j]?=some o)->bh P c.N ops l sos=true->cH c σ κ φ a w->a6 P K sos σ->
  wpOps P ops Q (List.range' k l.length++T) a w
 |[],l,k,σ,κ,φ,a,w,hl,Z,hr,h=>by
  cases l with
  |nil=>exact hQ _ _ _ _ _ hr h
  |cons _ _=>simp[bh] at Z
 |so::sos,l,k,σ,κ,φ,a,w,hl,Z,hr,h=>by
  cases l with
  |nil=>simp[bh] at Z
  |cons o l=>
   simp only[bh,SR] at Z
   simp only[S6,List.range'_succ,S_,wpOps]
   have ho:ops[k]?=some o:=by simpa using hl 0 o oS
   simp only[ho]
   simp only[a6] at h
   exact ym hr Z.1 h fun X W h6 a' w' r1 hk=>B9 hQ sos l (k+1) X W h6 a' w' (fun j o' hj=>by
    have:=hl (j+1) o' (by simpa using hj)
    rw[show k+1+j=k+(j+1) by omega];exact this) Z.2 r1 hk
theorem wY {N:Nat} {ops:Array Oper}:∀ {sos:List SO} {l:List Oper} {k:Nat} {so:SO},bh P N ops l sos=true->sos[k]?=some so->
  ∃ Y o l2,l=Y++o::l2/\Y.length=k/\bh P N ops Y (sos.take k)=true/\l6 P N ops o so=true/\bh P N ops l2 (sos.drop (k+1))=true
 |[],_,_,_,_,h=>by cases h
 |s::sos,[],_,_,Z,_=>by simp[bh] at Z
 |s::sos,o::l,0,so,Z,h=>by
  simp only[bh,SR] at Z
  simp at h;subst h
  exact⟨[],o,l,rfl,rfl,rfl,Z.1,Z.2⟩
 |s::sos,o::l,k+1,so,Z,h=>by
  simp only[bh,SR] at Z
  obtain⟨Y,o',l2,rfl,h1,h2,E,h4⟩:=wY Z.2 (by simpa using h)
  exact⟨o::Y,o',l2,rfl,by simp[h1],by simp[bh,Z.1,h2],E,by simpa using h4⟩
theorem K4 {M:Nat->Prop} {us:List Value} (h:an w M κ xs us):ah w M κ (mj xs) (if h:us.toArray.size=1 then us.toArray[0] else .tuple us.toArray):=by
 have hl:=h.length
 match xs,us,h,hl with
 |[x],[u],h,_=>
  unfold an at h
  obtain⟨i,g,h1,h2,E⟩:=h
  simp only[TA] at h1
  obtain⟨rfl,rfl⟩:=h1
  simpa[mj] using h2
 |[],[],h,_=>simp only[mj];unfold ah;exact⟨[],by simp,h⟩
 |x::y::xs,u::v::us,h,_=>
  simp only[mj];unfold ah
  exact⟨_,by rw[dif_neg oS],h⟩
theorem DE {dst:Option Nat} {qs:List RV} {post:List SO} {K:St->Prop} {M:St} (hx:Hg σ qs=some xs) (hi:cS (wX (sw 100000 b) (DD N dst (mj xs) σ)) M) (hk:a6 P K post M):Qe P b N dst qs post K .normal σ:=⟨σ,cS.refl _,xs,hx,M,hi,hk⟩
end
theorem Jc (π:Nat->Nat):∀ (l:List DV),o5 π (dR l)=dR l
 |[]=>rfl
 |d::l=>by
  have:=Jc π l
  simp only[dR] at this
  simp only[dR,S5,o5,nW,this]
theorem FB (π:Nat->Nat):∀ (ms:List cO) (O:List DV),o5 π (d7 ms O)=d7 ms O
 |[],O=>by simp[d7,o5]
 |m::ms,[]=>by simp[d7,o5]
 |m::ms,d::O=>by
  have:=FB π ms O
  simp only[d7] at this
  simp only[d7,UU,o5,this]
  cases m<;>rfl
theorem K5 (π:Nat->Nat) (H:α->List DV) (l:List α):EQ π (bG H l)=bG H l:=by
 simp only[EQ,bG,UD]
 exact T3 fun a _=>Jc π (H a)
theorem K6 {V:Type} {f:V->DV} (π:Nat->Nat) (W:List (K×V)):ER π (iV G (fun v=> .d (f v)) W)=iV G (fun v=> .d (f v)) W:=by
 simp only[ER,iV,UD];rfl
theorem MA {e:Nat} {ms:List cO} {H:α->List DV} (π:Nat->Nat) (W:List (K×List α)):ER π (iV G (Rz e ms H) W)=iV G (Rz e ms H) W:=by
 simp only[ER,iV,UD];rfl
theorem MB (π:Nat->Nat):EQ π []=[]:=rfl
theorem K7 (π:Nat->Nat) (r:List SV) (l:List (List SV)):EQ π (r::l)=o5 π r::EQ π l:=rfl
theorem MC (π:Nat->Nat):ER π []=[]:=rfl
theorem Ou (π:Nat->Nat) (σ:St) (i:Nat):(wX π σ).s i=nW π (σ.s i):=rfl
theorem Ov (π:Nat->Nat) (σ:St) (i:Nat):(wX π σ).h i=Ot π (σ.h (π i)):=rfl
theorem Qf (N:Nat) (xs:List SV) (σ:St) (i:Nat):(Mz N xs σ).s i=if i<N then(match xs[i]? with|some x=>x|none=> .d .any) else σ.s (i - N):=rfl
theorem Qg (N:Nat) (xs:List SV) (σ:St) (i:Nat):(Mz N xs σ).h i=σ.h i:=rfl
theorem Ow (N d:Nat) (v:SV) (σ:St) (i:Nat):(DD N (some d) v σ).s i=if i=d then v else σ.s (N+i):=rfl
theorem MD (N:Nat) (v:SV) (σ:St) (i:Nat):(DD N none v σ).s i=σ.s (N+i):=rfl
theorem Ox (N:Nat) (d:Option Nat) (v:SV) (σ:St) (i:Nat):(DD N d v σ).h i=σ.h i:=rfl
attribute [push_cast] nW o5 Ot Jc FB K5 K6 MA MB K7 MC Ou Ov Qf Qg Ow MD Ox sw Hg RV.sv mj
