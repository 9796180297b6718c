/-
  My text.
-/
import Derived.Test.YtgmnipfafmphaaaGreatDoorSZEngRg
namespace Go.Proofs.YtgmnipfafmphaaaGreatDoor
set_option linter.unusedSimpArgs false
set_option linter.unusedVariables false
open Go.RowKit
mutual
def jW (π:Nat->Nat):SV->SV
 | .ref id o=> .ref (π id) o
 | .vec id=> .vec (π id)
 | .vref id sz i o=> .vref (π id) sz i o
 | .mp id=> .mp (π id)
 | .agg cs=> .agg (kF π cs)
 | .tup cs=> .tup (kF π cs)
 | .lit sz n cs=> .lit sz n (kF π cs)
 | .d v=> .d v
 | .nils=> .nils
 | .own m v=> .own m v
def kF (π:Nat->Nat):List SV->List SV
 |[]=>[]
 |c::cs=>jW π c::kF π cs
end
def qX (π:Nat->Nat) (rows:List (List SV)):List (List SV):=rows.map (kF π)
def Dq (π:Nat->Nat) (kv:List (DV×SV)):List (DV×SV):=kv.map fun p=>(p.1,jW π p.2)
def IL (π:Nat->Nat):Ch->Ch
 | .dead=> .dead
 | .box cs=> .box (kF π cs)
 | .vec e sz rows=> .vec e sz (qX π rows)
 | .map kk kv=> .map kk (Dq π kv)
 | .bld T e bs=> .bld T e bs
section
variable {w:World} {M:Nat->Prop} {κ:Nat->Value} {π:Nat->Nat}
mutual
theorem kG (hπ:∀ i,π (π i)=i):∀ (x:SV) (u:Value),ag w M κ x u->ag w M (fun i=>κ (π i)) (jW π x) u
 | .ref id o,u,h=>by unfold ag at h;simp only[jW];unfold ag;simp only[hπ];exact h
 | .vec id,u,h=>by unfold ag at h;simp only[jW];unfold ag;simp only[hπ];exact h
 | .vref id sz i o,u,h=>by unfold ag at h;simp only[jW];unfold ag;simp only[hπ];exact h
 | .mp id,u,h=>by unfold ag at h;simp only[jW];unfold ag;simp only[hπ];exact h
 | .agg cs,u,h=>by
  unfold ag at h;simp only[jW];unfold ag
  obtain⟨vs,h1,h2,h3⟩:=h
  exact⟨vs,h1,h2,rV hπ cs vs h3⟩
 | .tup cs,u,h=>by
  unfold ag at h;simp only[jW];unfold ag
  obtain⟨vs,h1,h3⟩:=h
  exact⟨vs,h1,rV hπ cs vs h3⟩
 | .lit sz n cs,u,h=>by
  unfold ag at h;simp only[jW];unfold ag
  obtain⟨b,vs,h1,h2,h3,h4,h5,h6,h7⟩:=h
  exact⟨b,vs,h1,h2,h3,h4,h5,h6,rV hπ cs vs h7⟩
 | .d v,u,h=>by unfold ag at h;simp only[jW];unfold ag;exact h
 | .nils,u,h=>by unfold ag at h;simp only[jW];unfold ag;exact h
 | .own m v,u,h=>by unfold ag at h;exact h.elim
theorem rV (hπ:∀ i,π (π i)=i):∀ (cs:List SV) (us:List Value),ai w M κ cs us->ai w M (fun i=>κ (π i)) (kF π cs) us
 |[],us,h=>by unfold ai at h;simp only[kF];unfold ai;exact h
 |c::cs,us,h=>by
  unfold ai at h;simp only[kF];unfold ai
  obtain⟨u,vs,h1,h2,h3⟩:=h
  exact⟨u,vs,h1,kG hπ c u h2,rV hπ cs vs h3⟩
end
mutual
theorem Dr (hπ:∀ i,π (π i)=i):∀ (x:SV) (u:Value) (F:List Nat),ao w M κ x u F->ao w M (fun i=>κ (π i)) (jW π x) u F
 | .own m v,u,F,h=>by unfold ao at h;simp only[jW];unfold ao;exact h
 | .agg cs,u,F,h=>by
  unfold ao at h;simp only[jW];unfold ao
  obtain⟨vs,h1,h2,h3⟩:=h
  exact⟨vs,h1,h2,sZ hπ cs vs F h3⟩
 | .tup cs,u,F,h=>by
  unfold ao at h;simp only[jW];unfold ao
  obtain⟨vs,h1,h3⟩:=h
  exact⟨vs,h1,sZ hπ cs vs F h3⟩
 | .d v,u,F,h=>by unfold ao at h;have:=kG hπ _ _ h.2;simp only[jW] at this⊢;unfold ao;exact⟨h.1,this⟩
 | .nils,u,F,h=>by unfold ao at h;have:=kG hπ _ _ h.2;simp only[jW] at this⊢;unfold ao;exact⟨h.1,this⟩
 | .lit sz n cs,u,F,h=>by unfold ao at h;have:=kG hπ _ _ h.2;simp only[jW] at this⊢;unfold ao;exact⟨h.1,this⟩
 | .ref id o,u,F,h=>by unfold ao at h;have:=kG hπ _ _ h.2;simp only[jW] at this⊢;unfold ao;exact⟨h.1,this⟩
 | .vec id,u,F,h=>by unfold ao at h;have:=kG hπ _ _ h.2;simp only[jW] at this⊢;unfold ao;exact⟨h.1,this⟩
 | .vref id sz i o,u,F,h=>by unfold ao at h;have:=kG hπ _ _ h.2;simp only[jW] at this⊢;unfold ao;exact⟨h.1,this⟩
 | .mp id,u,F,h=>by unfold ao at h;have:=kG hπ _ _ h.2;simp only[jW] at this⊢;unfold ao;exact⟨h.1,this⟩
theorem sZ (hπ:∀ i,π (π i)=i):∀ (cs:List SV) (us:List Value) (F:List Nat),aj w M κ cs us F->aj w M (fun i=>κ (π i)) (kF π cs) us F
 |[],us,F,h=>by unfold aj at h;simp only[kF];unfold aj;exact h
 |c::cs,us,F,h=>by
  unfold aj at h;simp only[kF];unfold aj
  obtain⟨u,vs,F1,F2,h1,h2,h3,h4⟩:=h
  exact⟨u,vs,F1,F2,h1,h2,Dr hπ c u F1 h3,sZ hπ cs vs F2 h4⟩
end
end
def Ic (π:Nat->Nat) (σ:St):St:=⟨fun i=>jW π (σ.s i),fun i=>IL π (σ.h (π i))⟩
section
variable {c:Cx} {σ:St} {κ:Nat->Value} {φ:Nat->List Nat} {a:Act} {w:World} {π:Nat->Nat}
def sw (n b:Nat) (i:Nat):Nat:=if i<n then i+b else if b<=i/\i<b+n then i - b else i
def JO (c:Cx) (a:Act) (N:Nat):Cx:={c with N:=N,gs:=(List.range c.N).map (fun i=>a.tmps.getD i undef)++c.gs}
def IM (N:Nat) (xs:List SV) (σ:St):St:=⟨fun i=>if i<N then(match xs[i]? with|some x=>x|none=> .d .any) else σ.s (i - N),σ.h⟩
def E6 (N:Nat) (dst:Option Nat) (v:SV) (σ:St):St:=⟨match dst with|some d=>ak (fun i=>σ.s (N+i)) d v|none=>fun i=>σ.s (N+i),σ.h⟩
theorem b_.enter (hr:b_ c σ κ φ a w) {xs:List SV} {vs:List Value} (hx:ai w (own c φ) κ xs vs) (N:Nat) (hN:vs.length<=N):
  b_ (JO c a N) (IM N xs σ) κ φ {tmps:=vs.toArray++Array.replicate (N - vs.toArray.size) undef,defers:=[]} w:=by
 have hget:∀ {xs:List SV} {vs:List Value} (i:Nat) x,ai w (own c φ) κ xs vs->xs[i]?=some x->∃ v,vs[i]?=some v/\ag w (own c φ) κ x v:=by
  intro xs
  induction xs with
  |nil=>intro vs i x _ h;cases h
  |cons y ys ih=>
   intro vs i x h hx
   unfold ai at h
   obtain⟨u,us,rfl,h1,h2⟩:=h
   cases i with
   |zero=>simp at hx;subst hx;exact⟨u,rfl,h1⟩
   |succ i=>exact ih i x h2 (by simpa using hx)
 refine⟨hr.chg,hr.size,hr.m0, ?_,rfl,hr.kok,fun i hi=> ?_,fun i v hv=> ?_,hr.chunks,hr.mine,hr.nod,hr.sep⟩
 ·show _=N
  simp;omega
 ·have hi':i<N:=hi
  show ag w (own c φ) κ (if i<N then _ else _) _
  rw[if_pos hi']
  cases hxi:xs[i]? with
  |none=>simp[ag,aJ]
  |some x=>
   obtain⟨v,hv,h2⟩:=hget i x hx hxi
   have hlt:i<vs.length:=(K5.1 hv).1
   rw[LB,MI (by simpa using hlt)]
   simpa[hv] using h2
 ·show ag w (own c φ) κ (if N+i<N then _ else σ.s (N+i - N)) v
  rw[if_neg oM,Nat.add_sub_cancel_left]
  have hv':((List.range c.N).map (fun i=>a.tmps.getD i undef)++c.gs)[i]?=some v:=hv
  by_cases hlt:i<c.N
  ·rw[LH (by simpa using hlt)] at hv'
   simp[hlt] at hv'
   subst hv'
   have:=hr.slots i hlt
   simpa[LB] using this
  ·rw[Lv oT] at hv'
   have:=hr.ghost (i - c.N) v (by simpa using hv')
   rwa[show c.N+(i - c.N)=i by omega] at this
theorem b_.leave {c:Cx} {a a':Act} {σ:St} {κ:Nat->Value} {φ:Nat->List Nat} {w:World} {N:Nat} (hn:a.tmps.size=c.N) (hd:a.defers=[]) (hr:b_ (JO c a N) σ κ φ a' w):b_ c ⟨fun i=>σ.s (N+i),σ.h⟩ κ φ a w:=by
 refine⟨hr.chg,hr.size,hr.m0,hn,hd,hr.kok,fun i hi=> ?_,fun i v hv=> ?_,hr.chunks,hr.mine,hr.nod,hr.sep⟩
 ·exact hr.ghost i (a.tmps.getD i undef) (by
   show((List.range c.N).map (fun i=>a.tmps.getD i undef)++c.gs)[i]?=_
   rw[LH (by simpa using hi)]
   simp[hi])
 ·have:=hr.ghost (c.N+i) v (by
   show((List.range c.N).map (fun i=>a.tmps.getD i undef)++c.gs)[c.N+i]?=_
   rw[Lv oS]
   simpa using hv)
  exact this
end
section
variable {P:Program} {c:Cx} {σ:St} {κ:Nat->Value} {φ:Nat->List Nat} {a:Act} {w:World}
end
section
variable {P:Program} {x0:SC} {Q:AX->St->Prop} {s:Nat->SV} {h:Nat->Ch} {α β:Type} {row:α->List DV} {row':β->List DV} {ms ms':List aL} {l:List α}
end
theorem Ds {s:Nat->SV} {h:Nat->Ch} {α:Type} {e sz:Nat} {r0:List SV} (id:Nat) (ms:List aL) (row:α->List DV) {l:List α} (hh:h id= .vec e sz [r0]) (hr:cH [r0] (aw ms row l)):ce ⟨s,h⟩ ⟨s,ak h id (.vec e sz (aw ms row l))⟩:=
 yG (rows:=[]) (ys:=[r0]) id ms row hh hr
theorem AJ (π:Nat->Nat) (a b:List (List SV)):qX π (a++b)=qX π a++qX π b:=by simp[qX]
theorem BW (π:Nat->Nat):∀ (l:List DV),kF π (dR l)=dR l
 |[]=>rfl
 |d::l=>by
  have:=BW π l
  simp only[dR] at this
  simp only[dR,Lh,kF,jW,this]
theorem s_ (π:Nat->Nat):∀ (ms:List aL) (ds:List DV),kF π (bW ms ds)=bW ms ds
 |[],ds=>by simp[bW,kF]
 |m::ms,[]=>by simp[bW,kF]
 |m::ms,d::ds=>by
  have:=s_ π ms ds
  simp only[bW] at this
  simp only[bW,MC,kF,this]
  cases m<;>rfl
theorem Dt {α:Type} (π:Nat->Nat) (row:α->List DV) (l:List α):qX π (bH row l)=bH row l:=by
 simp only[qX,bH,MD]
 exact LS fun a _=>BW π (row a)
theorem BX {α:Type} (π:Nat->Nat) (ms:List aL) (row:α->List DV) (l:List α):qX π (aw ms row l)=aw ms row l:=by
 simp only[qX,aw,MD]
 exact LS fun a _=>s_ π ms (row a)
theorem AK (π:Nat->Nat) (y:SV):∀ (xs:List SV) (i:Nat),kF π (xs.set i y)=(kF π xs).set i (jW π y)
 |[],i=>by simp[kF]
 |x::xs,0=>by simp only[List.set_cons_zero,kF]
 |x::xs,i+1=>by simp only[List.set_cons_succ,kF,AK π y xs i]
theorem E7 (π:Nat->Nat) (rows:List (List SV)) (i:Nat) (r:List SV):qX π (rows.set i r)=(qX π rows).set i (kF π r):=by simp only[qX,List.map_set]
theorem Du {K V:Type} {ke:K->DV} {f:V->DV} (π:Nat->Nat) (W:List (K×V)):Dq π (ik ke (fun v=> .d (f v)) W)=ik ke (fun v=> .d (f v)) W:=by
 simp only[Dq,ik,MD];rfl
theorem E8 {K α:Type} {ke:K->DV} {e:Nat} {ms:List aL} {row:α->List DV} (π:Nat->Nat) (W:List (K×List α)):Dq π (ik ke (Hr e ms row) W)=ik ke (Hr e ms row) W:=by
 simp only[Dq,ik,MD];rfl
theorem E9 (π:Nat->Nat):qX π []=[]:=rfl
theorem Dv (π:Nat->Nat) (r:List SV) (l:List (List SV)):qX π (r::l)=kF π r::qX π l:=rfl
theorem E_ (π:Nat->Nat):Dq π []=[]:=rfl
theorem Hf (π:Nat->Nat) (σ:St) (i:Nat):(Ic π σ).s i=jW π (σ.s i):=rfl
theorem Hg (π:Nat->Nat) (σ:St) (i:Nat):(Ic π σ).h i=IL π (σ.h (π i)):=rfl
theorem IO (N:Nat) (xs:List SV) (σ:St) (i:Nat):(IM N xs σ).s i=if i<N then(match xs[i]? with|some x=>x|none=> .d .any) else σ.s (i - N):=rfl
theorem IP (N:Nat) (xs:List SV) (σ:St) (i:Nat):(IM N xs σ).h i=σ.h i:=rfl
theorem Hh (N d:Nat) (v:SV) (σ:St) (i:Nat):(E6 N (some d) v σ).s i=if i=d then v else σ.s (N+i):=rfl
theorem Fc (N:Nat) (v:SV) (σ:St) (i:Nat):(E6 N none v σ).s i=σ.s (N+i):=rfl
theorem Hi (N:Nat) (d:Option Nat) (v:SV) (σ:St) (i:Nat):(E6 N d v σ).h i=σ.h i:=rfl
attribute [push_cast] jW kF IL AJ BW s_ Dt BX AK E7 Du E8 E9 Dv E_ Hf Hg IO IP Hh Fc Hi sw DB RV.sv oQ
end Go.Proofs.YtgmnipfafmphaaaGreatDoor

