/-
  My text.
-/
import Derived.Test.YtgmnipfafmphaaaGreatDoorSXEngK
namespace Go.Proofs.YtgmnipfafmphaaaGreatDoor
set_option linter.unusedSimpArgs false
set_option linter.unusedVariables false
open Go.RowKit
variable {K:St->Prop} {O:St} {P:Program} {Q:Exit->Act->World->Prop} {S:Nat->St} {U:Nat->Prop} {a:Act} {c:Cx} {d i id j k:Nat} {kp:Bool} {n:Nat} {o:Oper} {op:Pq} {ops:Array Oper} {p:Prop} {pre:List SO} {r:Array Bool} {s s':Nat->SV} {so:SO} {sos:List SO} {t:Nat} {v:SV} {w:World} {z:Nat->SV} {κ:Nat->Value} {π:List Nat} {σ:St} {φ:Nat->List Nat}
def IR:Pq->List SX
 | .boxM x=>[x]
 | .st _ p v=>[p,v]
 | .app _ _ x y=>[x,y]
 | .appS _ x y=>[x,y]
 | .mkmap _=>[]
 | .mset _ m k v=>[m,k,v]
 | .trunc _ x hi=>[x,hi]
 | .slM _ _ xs=>xs
 | .bldM _ _=>[]
def tT (d:Nat):Pq->Option Nat
 | .st _ _ _=>none
 | .mset _ _ _ _=>none
 |_=>some d
def Bv:SO->Bool
 | .x _ _ _=>true
 | .q _ _ _ _=>true
 |_=>false
def ca:SO->Option Nat
 | .x d op _=>tT d op
 | .q d _ _ _=>some d
 |so=>lW so
def Ve:SO->List SX
 | .x _ op _=>IR op
 | .q _ f args _=>f::args
 |so=>Ly so
def QZ (so:SO):Bool:=Bv so||(lW so).isSome
open Classical in
noncomputable def qQ (z:Nat->SV) (U:Nat->Prop) (s:Nat->SV):Nat->SV:=fun t=>if U t then z t else s t
theorem gG (h:¬ U t):qQ z U s t=s t:=by unfold qQ;simp[h]
theorem oC (h:U t):qQ z U s t=z t:=by unfold qQ;simp[h]
theorem Fw (h:∀ t,¬ U t->s t=s' t):qQ z U s=qQ z U s':=by
 funext t
 by_cases hu:U t
 ·rw[oC hu,oC hu]
 ·rw[gG hu,gG hu,h t hu]
theorem oE {x:SX} (h:∀ t,x= .t t->¬ U t):ev (qQ z U s) x=ev s x:=by
 cases x with
 |t n=>exact gG (h n rfl)
 |c v=>rfl
 |f i=>rfl
theorem l7 (hz:∀ i t,d6 i .any (z t)=z t):ap (bG id .any (qQ z U s)) d v=qQ z (fun t=>U t/\t≠d) (ap (bG id .any s) d v):=by
 funext t
 by_cases ht:t=d
 ·subst ht;rw[aC,gG oS,aC]
 ·rw[bh _ _ _ _ ht]
  by_cases hu:U t
  ·rw[oC (U:=fun t=>U t/\t≠d) ⟨hu,ht⟩];simp[bG,oC hu,hz]
  ·rw[gG (U:=fun t=>U t/\t≠d) (fun h=>hu h.1),bh _ _ _ _ ht];simp[bG,gG hu]
noncomputable def er (U:Nat->Prop) (s:Nat->SV):Nat->SV:=qQ (fun _=> .d .any) U s
theorem Dw (h:¬ U t):er U s t=s t:=gG h
theorem NH (h:U t):er U s t= .d .any:=oC h
theorem NI (h:∀ t,¬ U t->s t=s' t):er U s=er U s':=Fw h
theorem NJ (hz:∀ i t,d6 i .any (z t)=z t) (h:wr σ d op=some (p,O)) (hx:∀ x∈IR op,∀ t,x= .t t->¬ U t):
  wr ⟨qQ z U σ.s,σ.h⟩ d op=some (p,⟨qQ z (fun t=>U t/\tT d op≠some t) O.s,O.h⟩):=by
 have a:∀ s:Nat->SV,qQ z (fun t=>U t/\(none:Option Nat)≠some t) s=qQ z U s:=fun s=>by congr 1;funext t;simp
 have one:∀ s:Nat->SV,qQ z (fun t=>U t/\(some d:Option Nat)≠some t) s=qQ z (fun t=>U t/\t≠d) s:=fun s=>by
  congr 1;funext t;simp only[ne_eq,Vi,eq_comm]
 cases op with
 |boxM x=>
  have h1:=oE (z:=z) (s:=σ.s) (hx x (by simp[IR]))
  simp only[wr,tT,h1,one] at h⊢
  split at h
  ·simp only[Vi,Vm] at h
   obtain⟨rfl,rfl⟩:=h
   simp only[St.swap,l7 hz]
  ·cases h
 |st n x y=>
  have h1:=oE (z:=z) (s:=σ.s) (hx x (by simp[IR]))
  have h2:=oE (z:=z) (s:=σ.s) (hx y (by simp[IR]))
  simp only[wr,tT,h1,h2,a] at h⊢
  split at h
  ·split at h
   ·rename_i E h4
    simp only[Vi,Vm] at h
    obtain⟨rfl,rfl⟩:=h
    simp only
   ·cases h
  ·split at h
   ·split at h
    ·rename_i h5
     simp only[Vi,Vm] at h
     obtain⟨rfl,rfl⟩:=h
     simp only
    ·cases h
   ·cases h
  ·cases h
 |app e sz x y=>
  have h1:=oE (z:=z) (s:=σ.s) (hx x (by simp[IR]))
  have h2:=oE (z:=z) (s:=σ.s) (hx y (by simp[IR]))
  simp only[wr,tT,h1,h2,one] at h⊢
  split at h
  ·split at h
   ·simp only[Vi,Vm] at h
    obtain⟨rfl,rfl⟩:=h
    simp only[dh,St.swap,l7 hz]
   ·cases h
  ·simp only[Vi,Vm] at h
   obtain⟨rfl,rfl⟩:=h
   simp only[dh,St.swap,l7 hz]
  ·simp only[Vi,Vm] at h
   obtain⟨rfl,rfl⟩:=h
   simp only[dh,St.swap,l7 hz]
  ·cases h
 |appS e x y=>
  have h1:=oE (z:=z) (s:=σ.s) (hx x (by simp[IR]))
  have h2:=oE (z:=z) (s:=σ.s) (hx y (by simp[IR]))
  simp only[wr,tT,h1,h2,one] at h⊢
  split at h
  ·split at h
   ·simp only[Vi,Vm] at h
    obtain⟨rfl,rfl⟩:=h
    simp only[dh,St.swap,l7 hz]
   ·cases h
  ·simp only[Vi,Vm] at h
   obtain⟨rfl,rfl⟩:=h
   simp only[dh,St.swap,l7 hz]
  ·cases h
 |bldM T e=>
  simp only[wr,tT,one,Vi,Vm] at h⊢
  obtain⟨rfl,rfl⟩:=h
  simp only[St.swap,l7 hz,and_self]
 |mkmap kk=>
  simp only[wr,tT,one,Vi,Vm] at h⊢
  obtain⟨rfl,rfl⟩:=h
  simp only[St.swap,l7 hz,and_self]
 |mset kk m k v=>
  have h1:=oE (z:=z) (s:=σ.s) (hx m (by simp[IR]))
  have h2:=oE (z:=z) (s:=σ.s) (hx k (by simp[IR]))
  have E:=oE (z:=z) (s:=σ.s) (hx v (by simp[IR]))
  simp only[wr,tT,h1,h2,E,a] at h⊢
  split at h
  ·split at h
   ·simp only[Vi,Vm] at h
    obtain⟨rfl,rfl⟩:=h
    simp only
   ·cases h
  ·cases h
 |slM e sz xs=>
  have h1:xs.map (ev (qQ z U σ.s))=xs.map (ev σ.s):=Wc fun x r3=>oE (hx x (by simpa only[IR] using r3))
  simp only[wr,tT,h1,one] at h⊢
  split at h
  ·simp only[Vi,Vm] at h
   obtain⟨rfl,rfl⟩:=h
   simp only[dh,St.swap,l7 hz]
  ·cases h
 |trunc sz x hi=>
  have h1:=oE (z:=z) (s:=σ.s) (hx x (by simp[IR]))
  have h2:=oE (z:=z) (s:=σ.s) (hx hi (by simp[IR]))
  simp only[wr,tT,h1,h2,one] at h⊢
  split at h
  ·split at h
   ·simp only[Vi,Vm] at h
    obtain⟨rfl,rfl⟩:=h
    simp only[dh,St.swap,l7 hz]
   ·cases h
  ·cases h
theorem Ib (hz:∀ i t,d6 i .any (z t)=z t) {res:SV} (h:takes σ [] (some d) res=some O):takes ⟨qQ z U σ.s,σ.h⟩ [] (some d) res=some ⟨qQ z (fun t=>U t/\(some d:Option Nat)≠some t) O.s,O.h⟩:=by
 have one:∀ s:Nat->SV,qQ z (fun t=>U t/\(some d:Option Nat)≠some t) s=qQ z (fun t=>U t/\t≠d) s:=fun s=>by
  congr 1;funext t;simp only[ne_eq,Vi,eq_comm]
 have a:∀ (s:Nat->SV) (v:SV),ap (qQ z U s) d v=qQ z (fun t=>U t/\t≠d) (ap s d v):=fun s v=>by
  funext t
  by_cases ht:t=d
  ·subst ht;rw[aC,gG oS,aC]
  ·rw[bh _ _ _ _ ht]
   by_cases hu:U t
   ·rw[oC (U:=fun t=>U t/\t≠d) ⟨hu,ht⟩,oC hu]
   ·rw[gG (U:=fun t=>U t/\t≠d) (fun h=>hu h.1),bh _ _ _ _ ht,gG hu]
 unfold takes at h⊢
 simp only at h⊢
 split at h
 ·rename_i h0
  simp only[Vi] at h;subst h
  rw[Wy h0,one,a]
 ·rename_i h0
  rw[WU h0]
  split at h
  ·rename_i h1
   rw[Wy h1]
   split at h
   ·rename_i m v ho
    split at h
    ·rename_i ch mk s6
     simp only[Vi] at h;subst h
     simp only[one,l7 hz]
    ·cases h
   ·cases h
  ·cases h
section
variable {σ:St}
theorem tU (hs:∀ i,O.s i=σ.s i\/O.s i= .d .any) (hh:∀ i,O.h i=σ.h i\/O.h i= .dead):bt σ O:=fun c κ φ a w D=>by
 classical
 refine⟨κ,fun i=>if O.h i=σ.h i then φ i else[], ?_⟩
 have f:∀ i b,b∈(if O.h i=σ.h i then φ i else[])->b∈φ i:=fun i b hb=>by
  split at hb
  ·exact hb
  ·simp at hb
 have Q:mG w (own c φ) w (own c fun i=>if O.h i=σ.h i then φ i else[]):=mG.shrink fun b hb=>by
  rcases hb with hb|⟨i,hb⟩
  ·exact .inl hb
  ·exact .inr ⟨i,f i b hb⟩
 have v8:∀ i v,al w (own c φ) κ (σ.s i) v->al w (own c fun i=>if O.h i=σ.h i then φ i else[]) κ (O.s i) v:=fun i v hv=>by
  rcases hs i with h|h
  ·rw[h];exact hv.ext Q
  ·rw[h];simp only[al];unfold bf;trivial
 refine⟨D.chg,D.size,D.m0,D.ntmps,D.defers,D.kok,fun i hi=>v8 i _ (D.slots i hi),fun i v hv=>v8 _ v (D.ghost i v hv),fun i=> ?_,fun i b hb=>D.mine i b (f i b hb),fun i=> ?_,fun i j b r0 hi hj=>D.sep i j b r0 (f i b hi) (f j b hj)⟩
 ·by_cases h:O.h i=σ.h i
  ·simp only[h,VW];exact(D.chunks i).ext Q (fun _ _=>rfl)
  ·rcases hh i with h'|h'
   ·exact absurd h' h
   ·simp only[h,VQ];rw[h'];rfl
 ·split
  ·exact D.nod i
  ·simp
end
def LL (P:Program) (so:SO) (σ O:St):Prop:=
 match so with
 | .x d op late=>∃ p,wr σ d op=some (p,O)/\p/\su O late
 | .q d f args late=>∃ F as res,ev σ.s f= .d (.fn F [])/\SV.toDVs (args.map (ev σ.s))=some as/\bw P F (as.map .d) res (as.map .d)/\res.closed=true/\takes σ [] (some d) res=some O/\su O late
 |so=>∃ d v,lW so=some d/\YS P σ.h so σ.s v/\O=⟨ap σ.s d v,σ.h⟩
theorem zl (hx:Bv so=false) (h:LL P so σ O):∃ d v,lW so=some d/\YS P σ.h so σ.s v/\O=⟨ap σ.s d v,σ.h⟩:=by
 cases so<;>first|exact h|simp[Bv] at hx
theorem RZ (r5:QZ so=true) (h:AO P so σ K):∃ O,LL P so σ O/\K O:=by
 by_cases hx:Bv so=true
 ·cases so<;>simp[Bv] at hx
  ·rename_i d op late
   simp only[AO] at h
   split at h
   ·rename_i p O G;exact⟨O,⟨p,G,h.1,h.2.1⟩,h.2.2⟩
   ·exact h.elim
  ·rename_i d f args late
   obtain⟨F,as,res,O,h1,h2,E,h4,h5,h6,h7⟩:=h
   exact⟨O,⟨F,as,res,h1,h2,E,h4,h5,h6⟩,h7⟩
 ·simp only[WK] at hx
  simp only[QZ,hx,Wm,Wo] at r5
  obtain⟨d,hd⟩:=r5
  obtain⟨v,hv,hk⟩:=HR hd h
  refine⟨_, ?_,hk⟩
  cases so<;>first|exact⟨d,v,hd,hv,rfl⟩|simp[Bv] at hx
theorem Cj {P:Program} {K:St->Prop}:∀ (sos:List SO) (σ:St),(∀ so∈sos,QZ so=true)->aI P K sos σ->∃ S:Nat->St,S 0=σ/\(∀ (j:Nat) (so:SO),sos[j]?=some so->LL P so (S j) (S (j+1)))/\K (S sos.length)
 |[],σ,_,h=>⟨fun _=>σ,rfl,by simp,h⟩
 |so::sos,σ,r5,h=>by
  simp only[aI] at h
  obtain⟨O,h1,h2⟩:=RZ (r5 so oS) h
  obtain⟨S,E,h4,h5⟩:=Cj sos O (fun s hs=>r5 s (by simp[hs])) h2
  refine⟨fun j=>match j with|0=>σ|j+1=>S j,rfl,fun j s hj=> ?_,by simpa using h5⟩
  cases j with
  |zero=>simp at hj;subst hj;simpa[E] using h1
  |succ j=>exact h4 j s (by simpa using hj)
mutual
theorem Ic (id:Nat):∀ v:SV,(d6 id .any v).firm=true->d6 id .any v=v
 | .d v,_=>rfl
 | .nils,_=>rfl
 | .lit sz n cs,h=>by
  simp only[d6,SV.firm] at h⊢
  rw[Aq id cs h]
 | .agg cs,h=>by
  simp only[d6,SV.firm] at h⊢
  rw[Aq id cs h]
 | .tup cs,h=>by simp[d6,SV.firm] at h
 | .ref i off,h=>by
  by_cases hi:i=id
  ·simp[d6,hi,SV.firm] at h
  ·simp[d6,hi]
 | .vec i,h=>by
  by_cases hi:i=id
  ·simp[d6,hi,SV.firm] at h
  ·simp[d6,hi]
 | .vref i a b off,h=>by
  by_cases hi:i=id
  ·simp[d6,hi,SV.firm] at h
  ·simp[d6,hi]
 | .mp i,h=>by
  by_cases hi:i=id
  ·simp[d6,hi,SV.firm] at h
  ·simp[d6,hi]
 | .own m v,_=>rfl
theorem Aq (id:Nat):∀ l:List SV,SV.firms (ck id .any l)=true->ck id .any l=l
 |[],_=>rfl
 |c::cs,h=>by
  simp only[ck,SV.firms,Vj] at h⊢
  rw[Ic id c h.1,Aq id cs h.2]
end
mutual
theorem Ar (id:Nat):∀ v:SV,v.firm=true->d6 id .any v=v
 | .d v,_=>rfl
 | .nils,_=>rfl
 | .lit sz n cs,h=>by
  simp only[d6,SV.firm] at h⊢
  rw[yw id cs h]
 | .agg cs,h=>by
  simp only[d6,SV.firm] at h⊢
  rw[yw id cs h]
 | .tup cs,h=>by simp[SV.firm] at h
 | .ref i off,h=>by simp[SV.firm] at h
 | .vec i,h=>by simp[SV.firm] at h
 | .vref i a b off,h=>by simp[SV.firm] at h
 | .mp i,h=>by simp[SV.firm] at h
 | .own m v,h=>by simp[SV.firm] at h
theorem yw (id:Nat):∀ l:List SV,SV.firms l=true->ck id .any l=l
 |[],_=>rfl
 |c::cs,h=>by
  simp only[SV.firms,Vj] at h
  simp only[ck]
  rw[Ar id c h.1,yw id cs h.2]
end
def rT (s:Nat->SV):Nat->SV:=fun t=>if(s t).firm=true then s t else .d .any
theorem LM (s:Nat->SV) (i t:Nat):d6 i .any (rT s t)=rT s t:=by
 unfold rT
 split
 ·rename_i h;exact Ar i _ h
 ·rfl
theorem Id (s:Nat->SV) (t:Nat):rT s t= .d .any\/(rT s t=s t/\(s t).firm=true):=by
 unfold rT
 split
 ·rename_i h;exact .inr ⟨rfl,h⟩
 ·exact .inl rfl
theorem Ie (s:Nat->SV) (U:Nat->Prop) (t:Nat):qQ (rT s) U s t=s t\/qQ (rT s) U s t= .d .any:=by
 by_cases h:U t
 ·rw[oC h]
  rcases Id s t with h|h
  ·exact .inr h
  ·exact .inl h.1
 ·exact .inl (gG h)
def v_:sA->Bool
 | .sslc _ _ _=>true
 |_=>false
def KC:SO->Bool
 | .r _ op=>v_ op
 |_=>false
def Uo:SO->Bool
 | .r _ _=>true
 |_=>false
def Fx (n:Nat):List (Nat×Nat×sA)->Bool
 |[]=>false
 |(_,_,.cl _ [n'])::l=>n'==n||Fx n l
 |_::l=>Fx n l
def Dx (op:sA) (l:List (Nat×Nat×sA)):Bool:=
 match op with
 | .mv (.t n)=>Fx n l
 |_=>false
theorem Ig {a:Option Int} (h:Cf s (some (.t n))=some a):(s n).firm=true:=by
 simp only[Cf,ev] at h
 split at h
 ·rename_i h1;rw[h1];rfl
 ·cases h
theorem KD {h:Nat->Ch} {op:sA} (D:rd h s op=some (p,v)) (C:v_ op=true) (hn: .t n∈tC op):(s n).firm=true:=by
 cases op<;>simp only[v_,Vw] at C
 rename_i x lo hi
 simp only[rd] at D
 split at D
 ·rename_i l a b h1 h2 E
  simp only[tC,VK,VM,Option.mem_toList] at hn
  rcases hn with rfl|rfl|rfl
  ·have:s n= .d (.str l):=h1
   rw[this];rfl
  ·exact Ig h2
  ·exact Ig E
 ·cases D
mutual
theorem Fy:∀ v:SV,v.firm=true->∃ d,v.toDV=some d
 | .d v,_=>⟨v,rfl⟩
 | .nils,_=>⟨_,rfl⟩
 | .lit sz n cs,h=>by
  obtain⟨J,hd⟩:=wa cs (by simpa only[SV.firm] using h)
  exact⟨_,by simp only[SV.toDV,hd];rfl⟩
 | .agg cs,h=>by
  obtain⟨J,hd⟩:=wa cs (by simpa only[SV.firm] using h)
  exact⟨_,by simp only[SV.toDV,hd];rfl⟩
 | .tup cs,h=>by simp[SV.firm] at h
 | .ref i off,h=>by simp[SV.firm] at h
 | .vec i,h=>by simp[SV.firm] at h
 | .vref i a b off,h=>by simp[SV.firm] at h
 | .mp i,h=>by simp[SV.firm] at h
 | .own m v,h=>by simp[SV.firm] at h
theorem wa:∀ l:List SV,SV.firms l=true->∃ J,SV.toDVs l=some J
 |[],_=>⟨[],rfl⟩
 |c::cs,h=>by
  simp only[SV.firms,Vj] at h
  obtain⟨d,hd⟩:=Fy c h.1
  obtain⟨J,L⟩:=wa cs h.2
  exact⟨d::J,by simp only[SV.toDVs,hd,L]⟩
end
theorem Bw {s:Nat->SV}:∀ {l:List Nat},ou s l=true->∀ n∈l,(s n).firm=true
 |[],_,n,hn=>by cases hn
 |m::l,h,n,hn=>by
  simp only[ou,Vj] at h
  rcases VK.1 hn with rfl|hn
  ·exact h.1
  ·exact Bw h.2 n hn
theorem NK (h:wr σ d op=some (p,O)) (hn:tT d op≠some n):O.s n=σ.s n\/∃ id,O.s n=d6 id .any (σ.s n):=by
 have a:∀ (id e sz:Nat) (rows:List (List SV)),d≠n->(dh σ d id e sz rows).s n=d6 id .any (σ.s n):=fun id e sz rows hd=>by
  simp only[dh,ap,bG];rw[WU (Ne.symm hd)]
 cases op with
 |boxM x=>
  have hd:d≠n:=fun e=>hn (by simp[tT,e])
  simp only[wr] at h
  split at h
  ·simp only[Vi,Vm] at h
   obtain⟨rfl,rfl⟩:=h
   exact .inr ⟨d,by simp only[ap,bG];rw[WU (Ne.symm hd)]⟩
  ·cases h
 |st k x y=>
  simp only[wr] at h
  split at h
  ·split at h
   ·simp only[Vi,Vm] at h
    obtain⟨rfl,rfl⟩:=h
    exact .inl rfl
   ·cases h
  ·split at h
   ·split at h
    ·simp only[Vi,Vm] at h
     obtain⟨rfl,rfl⟩:=h
     exact .inl rfl
    ·cases h
   ·cases h
  ·cases h
 |app e sz x y=>
  have hd:d≠n:=fun e=>hn (by simp[tT,e])
  simp only[wr] at h
  split at h
  ·split at h
   ·simp only[Vi,Vm] at h
    obtain⟨rfl,rfl⟩:=h
    exact .inr ⟨_,a _ _ _ _ hd⟩
   ·cases h
  ·simp only[Vi,Vm] at h
   obtain⟨rfl,rfl⟩:=h
   exact .inr ⟨_,a _ _ _ _ hd⟩
  ·simp only[Vi,Vm] at h
   obtain⟨rfl,rfl⟩:=h
   exact .inr ⟨_,a _ _ _ _ hd⟩
  ·cases h
 |appS e x y=>
  have hd:d≠n:=fun e=>hn (by simp[tT,e])
  simp only[wr] at h
  split at h
  ·split at h
   ·simp only[Vi,Vm] at h
    obtain⟨rfl,rfl⟩:=h
    exact .inr ⟨_,a _ _ _ _ hd⟩
   ·cases h
  ·simp only[Vi,Vm] at h
   obtain⟨rfl,rfl⟩:=h
   exact .inr ⟨_,a _ _ _ _ hd⟩
  ·cases h
 |bldM T e'=>
  have hd:d≠n:=fun e=>hn (by simp[tT,e])
  simp only[wr,Vi,Vm] at h
  obtain⟨rfl,rfl⟩:=h
  exact .inr ⟨d,by simp only[ap,bG];rw[WU (Ne.symm hd)]⟩
 |mkmap kk=>
  have hd:d≠n:=fun e=>hn (by simp[tT,e])
  simp only[wr,Vi,Vm] at h
  obtain⟨rfl,rfl⟩:=h
  exact .inr ⟨d,by simp only[ap,bG];rw[WU (Ne.symm hd)]⟩
 |mset kk m k v=>
  simp only[wr] at h
  split at h
  ·split at h
   ·simp only[Vi,Vm] at h
    obtain⟨rfl,rfl⟩:=h
    exact .inl rfl
   ·cases h
  ·cases h
 |slM e sz xs=>
  have hd:d≠n:=fun e=>hn (by simp[tT,e])
  simp only[wr] at h
  split at h
  ·simp only[Vi,Vm] at h
   obtain⟨rfl,rfl⟩:=h
   exact .inr ⟨_,a _ _ _ _ hd⟩
  ·cases h
 |trunc sz x hi=>
  have hd:d≠n:=fun e=>hn (by simp[tT,e])
  simp only[wr] at h
  split at h
  ·split at h
   ·simp only[Vi,Vm] at h
    obtain⟨rfl,rfl⟩:=h
    exact .inr ⟨_,a _ _ _ _ hd⟩
   ·cases h
  ·cases h
theorem As (h:LL P so σ O) (hn:ca so≠some n):O.s n=σ.s n\/∃ id,O.s n=d6 id .any (σ.s n):=by
 by_cases hx:Bv so=true
 ·cases so<;>simp[Bv] at hx
  ·obtain⟨p,G,_,_⟩:=h
   exact NK G hn
  ·rename_i d f args late
   obtain⟨F,as,res,_,_,_,_,ht,_⟩:=h
   have hd:d≠n:=fun e=>hn (by simp[ca,e])
   simp only[takes] at ht
   split at ht
   ·simp only[Vi] at ht;subst ht
    exact .inl (by simp only[ap];rw[WU (Ne.symm hd)])
   ·split at ht
    ·split at ht
     ·split at ht
      ·simp only[Vi] at ht;subst ht
       exact .inr ⟨d,by simp only[ap,bG];rw[WU (Ne.symm hd)]⟩
      ·cases ht
     ·cases ht
    ·cases ht
 ·simp only[WK] at hx
  obtain⟨d,v,hd,_,rfl⟩:=zl hx h
  have w5:ca so=some d:=by cases so<;>first|exact hd|simp[Bv] at hx
  have:n≠d:=fun e=>hn (by rw[w5,e])
  exact .inl (by simp only[ap];rw[WU this])
theorem Dy (hS:∀ (j:Nat) (so:SO),sos[j]?=some so->LL P so (S j) (S (j+1))) {a:Nat}:∀ b,a<=b->b<=sos.length->(∀ i,a<=i->i<b->(sos.map ca)[i]?≠some (some n))->((S b).s n).firm=true->(S a).s n=(S b).s n:=by
 intro b g hb hn C
 induction b with
 |zero=>
      obtain rfl:a=0:=by omega
      rfl
 |succ b ih=>
  by_cases f:a=b+1
  ·rw[f]
  obtain⟨so,B⟩:∃ so,sos[b]?=some so:=⟨_,Vu oM⟩
  have hd:ca so≠some n:=fun e=>hn b oM oM (by simp[B,e])
  have h1:(S (b+1)).s n=(S b).s n:=by
   rcases As (hS b so B) hd with h|⟨id,h⟩
   ·exact h
   ·rw[h] at C⊢;exact Ic id _ C
  rw[h1] at C⊢
  exact ih oM oM (fun i hi h5=>hn i hi oM) C
theorem PT (hS:∀ (j:Nat) (so:SO),sos[j]?=some so->LL P so (S j) (S (j+1))) {a:Nat} {v:DV} (hv:(S a).s n= .d v):∀ b,a<=b->b<=sos.length->(∀ i,a<=i->i<b->(sos.map ca)[i]?≠some (some n))->(S b).s n= .d v:=by
 intro b g hb hn
 induction b with
 |zero=>
      obtain rfl:a=0:=by omega
      exact hv
 |succ b ih=>
  by_cases f:a=b+1
  ·rw[<-f];exact hv
  obtain⟨so,B⟩:∃ so,sos[b]?=some so:=⟨_,Vu oM⟩
  have hd:ca so≠some n:=fun e=>hn b oM oM (by simp[B,e])
  have h0:=ih oM oM (fun i hi h5=>hn i hi oM)
  rcases As (hS b so B) hd with h|⟨id,h⟩
  ·rw[h,h0]
  ·rw[h,h0];rfl
theorem NL (hS:∀ (j:Nat) (so:SO),sos[j]?=some so->LL P so (S j) (S (j+1))) {a:Nat} (hv:((S a).s n).firm=true):∀ b,a<=b->b<=sos.length->(∀ i,a<=i->i<b->(sos.map ca)[i]?≠some (some n))->(S b).s n=(S a).s n:=by
 intro b g hb hn
 induction b with
 |zero=>
      obtain rfl:a=0:=by omega
      rfl
 |succ b ih=>
  by_cases f:a=b+1
  ·rw[<-f]
  obtain⟨so,B⟩:∃ so,sos[b]?=some so:=⟨_,Vu oM⟩
  have hd:ca so≠some n:=fun e=>hn b oM oM (by simp[B,e])
  have h0:=ih oM oM (fun i hi h5=>hn i hi oM)
  rcases As (hS b so B) hd with h|⟨id,h⟩
  ·rw[h,h0]
  ·rw[h,h0];exact Ar id _ hv
def Dz (sos:List SO) (a:Nat):List (Nat×Nat×sA)->Bool
 |[]=>false
 |(a',d,.cl t ts)::l=>(a'==a&&t==d&&(match sos[a]? with
  |some (.c d' (.f _) args)=>d'==d&&args.all (fun x=>match x with| .t n=>ts.contains n| .c v=>v.toDV.isSome| .f _=>false)
  |_=>false))||Dz sos a l
 |_::l=>Dz sos a l
def fX (sos:List SO) (i:Nat):Bool:=match sos[i]? with|some so=>Bv so|none=>false
def tV (kp fo fw:Bool) (all:Array Oper) (sos:List SO) (f:List (Option Nat)) (j:Nat) (o:Oper) (xs:List SX):Bool:=
 (Ks xs).all fun t=>(List.range f.length).all fun b=>f[b]? !=some (some t)||(decide (b<j)&&o.after.any (fun e=>Region.binds .any e&&e.on==b))||
  ((List.range b).any fun p=>decide (j<=p)&&fX sos p&&(p==j||vm all j p [p]))||
  (kp&&fo&&decide (j<b)&&vm all j b [b]&&((List.range sos.length).all fun p=> !fX sos p||decide (p<b)||vm all j p [p])&&(fw||(List.range b).any fun p=>decide (j<=p)&&fX sos p))
def DA (kp:Bool) (j:List (Nat×Nat×sA)) (P:Program) (N:Nat) (all:Array Oper) (sos:List SO) (f:List (Option Nat)) (a:Nat):List (Nat×Nat×sA)->Bool
 |[]=>false
 |(a',d,op)::l=>(a'==a&&f[a]?==some (some d)&&(match all[a]? with
  |some o=>(match op with
   | .gd t want b=>l4 P N all o (.g t want (some d) (.r d b))&&tV kp (v_ b||Dx b j) true all sos f a o (.t t::tC b)
   |op=>o.guard==none&&ga P N o (.r d op)&&tV kp (v_ op||Dx op j) true all sos f a o (tC op))
  |none=>false))||DA kp j P N all sos f a l
def At:SO->List (Nat×Nat×sA)
 | .x _ _ l=>l
 | .q _ _ _ l=>l
 |_=>[]
def wb (kp:Bool) (P:Program) (N:Nat) (all:Array Oper) (sos:List SO) (f:List (Option Nat)) (j:Nat) (o:Oper) (so:SO):Bool:=
 QZ so&&o.after.all (fun e=> !Region.binds .any e||decide (e.on<j))&&tV kp (Uo so) (KC so) all sos f j o (Ve so)&&
 (List.range f.length).all (fun b=>b==j||f[b]? !=f[j]?||f[j]?==some none)&&
 (List.range j).all (fun p=>match sos[p]? with
  |some sp=>if Bv sp then vm all p j [j] else(!Bv so||vm all p j [j]||DA kp (At so) P N all sos f p (At so)||Dz sos p (At so))
  |none=>false)
def yx (kp:Bool) (P:Program) (N:Nat) (all:Array Oper) (sos:List SO) (f:List (Option Nat)):Nat->List Oper->List SO->Bool
 |_,[],[]=>true
 |j,o::ops,so::l=>wb kp P N all sos f j o so&&yx kp P N all sos f (j+1) ops l
 |_,_,_=>false
abbrev LN:=yx false
theorem tW {kp:Bool} {P:Program} {N:Nat} {all:Array Oper} {sos:List SO} {f:List (Option Nat)}:∀ {ops:List Oper} {l:List SO} {k:Nat},yx kp P N all sos f k ops l=true->∀ (j:Nat) (o:Oper) (so:SO),ops[j]?=some o->l[j]?=some so->wb kp P N all sos f (k+j) o so=true
 |[],[],k,h,j,o,so,ho,hs=>by simp at ho
 |o'::ops,r3::l,k,h,j,o,so,ho,hs=>by
  simp only[yx,Vj] at h
  cases j with
  |zero=>simp at ho hs;subst ho hs;exact h.1
  |succ j=>
   have:=tW h.2 j o so (by simpa using ho) (by simpa using hs)
   rw[show k+(j+1)=k+1+j by omega];exact this
 |[],_::_,k,h,_,_,_,_,_=>by simp[yx] at h
 |_::_,[],k,h,_,_,_,_,_=>by simp[yx] at h
theorem uA {fo fw:Bool} {all:Array Oper} {f:List (Option Nat)} {xs:List SX} (h:tV kp fo fw all sos f j o xs=true) (ht: .t t∈xs) {b:Nat} (hb:f[b]?=some (some t)):
  (b<j/\∃ e∈o.after,Region.binds .any e=true/\e.on=b)\/(∃ p,p<b/\j<=p/\fX sos p=true/\(p=j\/vm all j p [p]=true))\/
   (kp=true/\fo=true/\j<b/\vm all j b [b]=true/\(fw=true\/∃ p,j<=p/\p<b/\fX sos p=true)/\∀ p,p<sos.length->fX sos p=true->p<b\/vm all j p [p]=true):=by
 have h1:=VN.1 h t (List.mem_filterMap.2 ⟨.t t,ht,rfl⟩)
 have h2:=VN.1 h1 b (Wh.2 (Vr.1 hb).1)
 simp only[hb,bne_self_eq_false,Wm,V8,Vj,Vv] at h2
 rcases h2 with(h2|h2)|h2
 ·obtain⟨e,he,h6⟩:=Array.any_eq_true'.1 h2.2
  simp only[Vj,Vz] at h6
  exact .inl ⟨h2.1,e,he,h6.1,h6.2⟩
 ·obtain⟨p,Y,m⟩:=Xr.1 h2
  simp only[Vj,V8,Vv,Vz] at m
  exact .inr (.inl ⟨p,Wh.1 Y,m.1.1,m.1.2,m.2⟩)
 ·obtain⟨⟨⟨⟨⟨k1,k2⟩,k3⟩,k4⟩,k5⟩,k6⟩:=h2
  refine .inr (.inr ⟨k1,k2,k3,k4, ?_,fun p Y hx=> ?_⟩)
  ·rcases k6 with k6|k6
   ·exact .inl k6
   ·obtain⟨p,Y,m⟩:=Xr.1 k6
    simp only[Vj,Vv] at m
    exact .inr ⟨p,m.1,Wh.1 Y,m.2⟩
  have:=VN.1 k5 p (Wh.2 Y)
  simpa[hx] using this
theorem yy {σ:St} {n:Nat}:∀ {l:List (Nat×Nat×sA)},Fx n l=true->su σ l->(σ.s n).firm=true
 |[],h,_=>by simp[Fx] at h
 |(a,d,op)::l,h,D=>by
  simp only[su] at D
  unfold Fx at h
  split at h
  ·cases h
  ·rename_i B
   simp only[V9,Vm] at B
   obtain⟨⟨rfl,rfl,rfl⟩,rfl⟩:=B
   simp only[V8,Vz] at h
   rcases h with rfl|h
   ·have h0:=D.1
    simp only[QW,rd] at h0
    split at h0
    ·rename_i u4
     split at u4
     ·rename_i b;simpa[ou] using b
     ·cases u4
    ·exact h0.elim
   ·exact yy h D.2
  ·rename_i B
   simp only[V9] at B
   obtain⟨rfl,rfl⟩:=B
   exact yy h D.2
theorem JF {op:sA} {l:List (Nat×Nat×sA)} (h:Dx op l=true) (D:su σ l) (hn: .t n∈tC op):(σ.s n).firm=true:=by
 unfold Dx at h
 split at h
 ·simp only[tC,V1,SX.t.injEq] at hn
  subst hn
  exact yy h D
 ·cases h
theorem PU {a b:Bool} (h:¬ a=b):a= !b:=by cases a<;>cases b<;>first|rfl|exact absurd rfl h
theorem Bx {kp:Bool} {j:List (Nat×Nat×sA)} {P:Program} {N:Nat} {all:Array Oper} {sos:List SO} {f:List (Option Nat)} {a:Nat} {σ:St}:∀ {l:List (Nat×Nat×sA)},DA kp j P N all sos f a l=true->su σ l->
  ∃ d op o,f[a]?=some (some d)/\all[a]?=some o/\
   ((o.guard=none/\ga P N o (.r d op)=true/\tV kp (v_ op||Dx op j) true all sos f a o (tC op)=true/\∃ p,rd σ.h σ.s op=some (p,σ.s d)/\p)\/
    (∃ t want,l4 P N all o (.g t want (some d) (.r d op))=true/\tV kp (v_ op||Dx op j) true all sos f a o (.t t::tC op)=true/\∃ p,QW σ.h σ.s (.gd t want op)=some (p,σ.s d)/\p))
 |[],h,_=>by simp[DA] at h
 |(a',d,op)::l,h,D=>by
  simp only[DA,V8,Vj,Vz] at h
  simp only[su] at D
  rcases h with⟨⟨rfl,h1⟩,h2⟩|h
  ·split at h2
   ·rename_i o ho
    obtain⟨h5,_⟩:=D
    split at h5
    ·rename_i p v A
     obtain⟨Y,rfl⟩:=h5
     split at h2
     ·rename_i t want b
      simp only[Vj] at h2
      exact⟨d,b,o,h1,ho,.inr ⟨t,want,h2.1,h2.2,p,A,Y⟩⟩
     ·rename_i g
      simp only[Vj,Vz] at h2
      have e:rd σ.h σ.s op=some (p,σ.s d):=by
       cases op<;>first|exact A|exact absurd rfl (g _ _ _)
      exact⟨d,op,o,h1,ho,.inl ⟨h2.1.1,h2.1.2,h2.2,p,e,Y⟩⟩
    ·exact h5.elim
   ·cases h2
  ·exact Bx h D.2
theorem yz {sos:List SO} {a:Nat} {σ:St}:∀ {l:List (Nat×Nat×sA)},Dz sos a l=true->su σ l->∃ d F args ts,sos[a]?=some (.c d (.f F) args)/\(∀ x∈args,(∃ n,x= .t n/\n∈ts)\/∃ v,x= .c v/\v.toDV.isSome=true)/\ou σ.s ts=true
 |[],h,_=>by simp[Dz] at h
 |(a',d,op)::l,h,D=>by
  simp only[su] at D
  cases op with
  |cl t ts=>
   simp only[Dz,V8,Vj,Vz] at h
   rcases h with⟨_,h⟩|h
   ·split at h
    ·rename_i d' F args hs
     simp only[Vj,Vz,VN] at h
     refine⟨d',F,args,ts,hs,fun x hx=> ?_, ?_⟩
     ·have:=h.2 x hx
      cases x with
      |t n=>exact .inl ⟨n,rfl,by simpa using this⟩
      |c v=>exact .inr ⟨v,rfl,this⟩
      |f i=>cases this
     ·have h0:=D.1
      simp only[QW,rd] at h0
      by_cases C:ou σ.s ts=true
      ·exact C
      ·simp[C] at h0
    ·cases h
   ·exact yz h D.2
  |_=>exact yz (by simpa only[Dz] using h) D.2
theorem Q0 (f:Nat->Bool) (n:Nat):∀ k,k<=n->∃ M,k<=M/\M<=n/\(∀ i,k<=i->i<M->f i=false)/\(M=n\/(M<n/\f M=true)):=by
 intro k hk
 obtain⟨m,Z⟩:∃ m,m=n - k:=⟨_,rfl⟩
 induction m generalizing k with
 |zero=>exact⟨k,Vs _,hk,fun i h1 h2=>by omega,.inl oM⟩
 |succ m ih=>
  by_cases C:f k=true
  ·exact⟨k,Vs _,hk,fun i h1 h2=>by omega,.inr ⟨by omega,C⟩⟩
  ·obtain⟨M,h1,h2,E,h4⟩:=ih (k+1) oM oM
   refine⟨M,by omega,h2,fun i h5 h6=> ?_,h4⟩
   by_cases a:i=k
   ·subst a;simpa using C
   ·exact E i oM h6
theorem Tt (f:Nat->Bool) (k:Nat):∀ M,k<=M->(∀ i,k<=i->i<M->f i=false)\/∃ p,k<=p/\p<M/\f p=true/\∀ i,p<i->i<M->f i=false:=by
 intro M hM
 induction M with
 |zero=>exact .inl fun i h1 h2=>by omega
 |succ M ih=>
  by_cases hk:k=M+1
  ·exact .inl fun i h1 h2=>by omega
  ·by_cases C:f M=true
   ·exact .inr ⟨M,by omega,by omega,C,fun i h1 h2=>by omega⟩
   ·rcases ih oM with h|⟨p,h1,h2,E,h4⟩
    ·refine .inl fun i h1 h2=> ?_
     by_cases hi:i=M
     ·subst hi;simpa using C
     ·exact h i h1 oM
    ·refine .inr ⟨p,h1,by omega,E,fun i h5 h6=> ?_⟩
     by_cases hi:i=M
     ·subst hi;simpa using C
     ·exact h4 i h5 oM
section
variable {P:Program} {c:Cx}
theorem zm (hS:∀ (j:Nat) (so:SO),sos[j]?=some so->LL P so (S j) (S (j+1))) {a:Nat}:∀ b,a<=b->b<=sos.length->(∀ i,a<=i->i<b->fX sos i=false)->
  (S b).h=(S a).h/\∀ t,(∀ i,a<=i->i<b->(sos.map ca)[i]?≠some (some t))->(S b).s t=(S a).s t:=by
 intro b g hb C
 induction b with
 |zero=>
      obtain rfl:a=0:=by omega
      exact⟨rfl,fun _ _=>rfl⟩
 |succ b ih=>
  by_cases f:a=b+1
  ·subst f;exact⟨rfl,fun _ _=>rfl⟩
  obtain⟨h1,h2⟩:=ih oM oM (fun i hi h5=>C i hi oM)
  obtain⟨so,B⟩:∃ so,sos[b]?=some so:=⟨_,Vu oM⟩
  have hx:Bv so=false:=by have:=C b oM oM;simpa[fX,B] using this
  obtain⟨d,v,hd,_,he⟩:=zl hx (hS b so B)
  have w5:ca so=some d:=by cases so<;>first|exact hd|simp[Bv] at hx
  rw[he]
  refine⟨h1,fun t ht=> ?_⟩
  have U:t≠d:=fun e=>by
   subst e
   exact ht b oM oM (by simp[B,w5])
  simp only[bh _ _ _ _ U]
  exact h2 t fun i hi h5=>ht i hi oM
def cH (f:List (Option Nat)) (M:Nat) (L:Nat->Bool) (t:Nat):Prop:=∃ i:Nat,i<M/\f[i]?=some (some t)/\L i=false
theorem yA (hQ:∀ O W h7 a' w',dp c O W h7 a' w'->K O->Q .normal a' w') (Z:a_ P c.N ops ops.toList sos=true) (hz:∀ i t,d6 i .any (z t)=z t) (qu:kp=true->∀ t,((S 0).s t).firm=true->z t=(S 0).s t) (qv:∀ t,z t= .d .any\/(z t=(S 0).s t/\((S 0).s t).firm=true)) (u3:yx kp P c.N ops sos (sos.map ca) 0 ops.toList sos=true) (hS:∀ (j:Nat) (so:SO),sos[j]?=some so->LL P so (S j) (S (j+1))) (hK:K (S sos.length)):
  ∀ (u:Nat) (r:Array Bool) (M:Nat) (κ:Nat->Value) (φ:Nat->List Nat) (a:Act) (w:World),r.size=ops.size->(Bi ops.size r).length=u->
   (∀ (i:Nat) o,r.getD i false=true->ops[i]?=some o->∀ e∈o.after,Region.binds .any e=true->r.getD e.on false=true)->
   M<=sos.length->(∀ i,i<M->fX sos i=true->r.getD i false=true)->(M=sos.length\/(M<sos.length/\fX sos M=true))->(∀ i,M<=i->r.getD i false=false)->
   dp c ⟨qQ z (cH (sos.map ca) M (fun i=>r.getD i false)) (S M).s,(S M).h⟩ κ φ a w->
   wpAny P .any ops Q u r a w:=by
 obtain⟨s9,v1⟩:=hL Z
 have I:sos.length=ops.size:=by simp at s9;omega
 have R:∀ j,j<ops.size->∃ so,sos[j]?=some so:=fun j hj=>⟨_,Vu oM⟩
 have w9:∀ (j:Nat) so,sos[j]?=some so->(sos.map ca)[j]?=some (ca so):=fun j so h=>by simp[h]
 have u5:∀ (j:Nat) o so,ops[j]?=some o->sos[j]?=some so->wb kp P c.N ops sos (sos.map ca) j o so=true:=fun j o so ho B=>by
  have:=tW u3 j o so (by simpa using ho) B
  simpa using this
 have qi:∀ (j:Nat) o so,ops[j]?=some o->sos[j]?=some so->∀ e∈o.after,Region.binds .any e=true->e.on<j:=fun j o so ho B e he hb=>by
  have:=u5 j o so ho B
  simp only[wb,Vj] at this
  have:=WR.1 this.1.1.1.2 e he
  simpa[hb] using this
 have s7:∀ (j b:Nat) t,(sos.map ca)[j]?=some (some t)->(sos.map ca)[b]?=some (some t)->b=j:=fun j b t hj hb=>by
  have qr:j<sos.length:=by have:=(Vr.1 hj).1;simpa using this
  have qg:b<(sos.map ca).length:=(Vr.1 hb).1
  obtain⟨so,B⟩:=R j oM
  have:=u5 j ops[j] so (WN oM) B
  simp only[wb,Vj] at this
  have:=VN.1 this.1.2 b (Wh.2 qg)
  simpa[hj,hb] using this
 have qj:∀ (p j:Nat),p<j->j<sos.length->fX sos p=true->vm ops p j [j]=true:=fun p j qw hj Y=>by
  obtain⟨so,B⟩:=R j oM
  obtain⟨sp,s8⟩:=R p oM
  have:=u5 j ops[j] so (WN oM) B
  simp only[wb,Vj] at this
  have:=VN.1 this.2 p (Wh.2 qw)
  have hx:Bv sp=true:=by simpa[fX,s8] using Y
  simpa[s8,hx] using this
 have fin:∀ (r:Array Bool) (M:Nat) (κ:Nat->Value) (φ:Nat->List Nat) (a:Act) (w:World),r.size=ops.size->(M=sos.length\/(M<sos.length/\fX sos M=true))->(∀ i,M<=i->r.getD i false=false)->
   dp c ⟨qQ z (cH (sos.map ca) M (fun i=>r.getD i false)) (S M).s,(S M).h⟩ κ φ a w->Region.ready .any ops r=[]->Q .normal a w:=by
  intro r M κ φ a w V hM s2 D H
  have all:∀ j,j<ops.size->r.getD j false=true:=by
   intro j
   induction j using Nat.strongRecOn with
   |_ j ih=>
    intro hj
    by_cases hl:r.getD j true=false
    ·exfalso
     have ho:ops[j]?=some ops[j]:=WN hj
     obtain⟨so,B⟩:=R j hj
     have hx:=qi j ops[j] so ho B
     have:j∈Region.ready .any ops r:=mem_ready.2 ⟨hl,ops[j],ho,fun e he hb=>ih e.on (hx e he hb) (by have:=hx e he hb;omega)⟩
     rw[H] at this;simp at this
    ·have X:j<r.size:=by omega
     simp[X] at hl⊢
     exact hl
  have w3:M=sos.length:=by
   rcases hM with h|⟨h,_⟩
   ·exact h
   ·have h1:=all M oM
    rw[s2 M (Vs _)] at h1;cases h1
  refine hQ _ _ _ _ _ D ?_
  have:qQ z (cH (sos.map ca) M (fun i=>r.getD i false)) (S M).s=(S M).s:=by
   funext t
   refine gG fun⟨i,_,h1,h2⟩=> ?_
   have N:i<sos.length:=by have:=(Vr.1 h1).1;simpa using this
   simp only[all i oM] at h2;cases h2
  rw[this,w3];exact hK
 intro u
 induction u with
 |zero=>
  intro r M κ φ a w V hu _ _ _ hM s2 D
  have H:Region.ready .any ops r=[]:=by
   cases A:Region.ready .any ops r with
   |nil=>rfl
   |cons i l=>
    exfalso
    have hi:i∈Region.ready .any ops r:=by rw[A];simp
    obtain⟨h0,o,ho,_⟩:=mem_ready.1 hi
    have:i∈Bi ops.size r:=by simp only[Bi,Xx,Wh,h0,VB,and_true];exact(VV.1 ho).1
    rw[Vx.1 hu] at this;simp at this
  exact⟨H,fin r M κ φ a w V hM s2 D H⟩
 |succ u ih=>
  intro r M κ φ a w V hu h6 w3 v4 hM s2 D
  refine⟨fin r M κ φ a w V hM s2 D,fun j hj=> ?_⟩
  obtain⟨h0,o,ho,s6⟩:=mem_ready.1 hj
  have v3:j<ops.size:=(VV.1 ho).1
  obtain⟨so,B⟩:=R j v3
  have s1:r.getD j false=false:=by
   simp only[V2] at h0⊢
   have:j<r.size:=by omega
   simpa[this] using h0
  have v5:=yp h6 ho s6 oM
  have w2:(Bi ops.size (r.setIfInBounds j true)).length=u:=by
   have:=Gu v3 V h0
   omega
  have u0:∀ i,(r.setIfInBounds j true).getD i false=(r.getD i false||i==j):=fun i=>by
   by_cases r0:j=i
   ·subst r0;simp[V,v3]
   ·rw[getD_set_ne false r0];simp[Ne.symm r0]
  have qF:j<=M:=by
   rcases VR M j with h9|s0
   ·exfalso
    rcases hM with h|⟨h,hx⟩
    ·omega
    ·have h1:=qj M j h9 oM hx
     have h2:=l3 v5 j [j] (by simp[u0]) h1
     rw[u0,s2 M (Vs _)] at h2
     simp at h2
     omega
   ·exact s0
  have u6:=u5 j o so ho B
  have u7:∀ (xs:List SX) (fo fw:Bool),tV kp fo fw ops sos (sos.map ca) j o xs=true->∀ t,.t t∈xs->(¬ cH (sos.map ca) M (fun i=>r.getD i false) t/\∀ b:Nat,(sos.map ca)[b]?=some (some t)->b<j\/M<=b)\/
    (kp=true/\fo=true/\∃ b:Nat,(sos.map ca)[b]?=some (some t)/\j<b/\b<M/\r.getD b false=false/\(fw=true\/∃ p,j<=p/\p<b/\fX sos p=true)/\∀ p,p<M->fX sos p=true->p<b):=fun xs fo fw T t ht=>by
   have u8:∀ b p:Nat,p<b->j<=p->fX sos p=true->(p=j\/vm ops j p [p]=true)->M<=b:=fun b p h1 h2 E h4=>by
    rcases VR b M with h9|v0
    ·exfalso
     have qb:=v4 p oM E
     rcases h4 with rfl|h4
     ·rw[s1] at qb;cases qb
     ·have:=l3 h6 p [p] (by simpa using qb) h4
      rw[s1] at this;cases this
    ·exact v0
   by_cases v7:∃ b:Nat,(sos.map ca)[b]?=some (some t)/\kp=true/\fo=true/\j<b/\vm ops j b [b]=true/\b<M/\(fw=true\/∃ p,j<=p/\p<b/\fX sos p=true)/\∀ p,p<sos.length->fX sos p=true->p<b\/vm ops j p [p]=true
   ·obtain⟨b,hb,k1,k2,k3,k4,k5,k7,k6⟩:=v7
    refine .inr ⟨k1,k2,b,hb,k3,k5, ?_,k7,fun p Y hx=> ?_⟩
    ·by_cases qk:r.getD b false=true
     ·have:=l3 h6 b [b] (by simpa using qk) k4
      rw[s1] at this;cases this
     ·simpa using qk
    ·rcases k6 p oM hx with h|h
     ·exact h
     ·have:=l3 h6 p [p] (by simpa using v4 p Y hx) h
      rw[s1] at this;cases this
   ·refine .inl ⟨fun⟨b,v2,r7,s5⟩=> ?_,fun b hb=> ?_⟩
    ·rcases uA T ht r7 with⟨_,e,he,w1,rfl⟩|⟨p,h1,h2,E,h4⟩|⟨k1,k2,k3,k4,k7,k5⟩
     ·simp only[s6 e he w1] at s5;cases s5
     ·have:=u8 b p h1 h2 E h4;omega
     ·exact v7 ⟨b,r7,k1,k2,k3,k4,v2,k7,k5⟩
    ·rcases uA T ht hb with⟨h,_⟩|⟨p,h1,h2,E,h4⟩|⟨k1,k2,k3,k4,k7,k5⟩
     ·exact .inl h
     ·exact .inr (u8 b p h1 h2 E h4)
     ·refine .inr ?_
      rcases VR b M with h9|v0
      ·exact absurd ⟨b,hb,k1,k2,k3,k4,h9,k7,k5⟩ v7
      ·exact v0
  have u2:∀ (xs:List SX),(∃ fw,tV kp false fw ops sos (sos.map ca) j o xs=true)->∀ t,.t t∈xs->¬ cH (sos.map ca) M (fun i=>r.getD i false) t/\∀ b:Nat,(sos.map ca)[b]?=some (some t)->b<j\/M<=b:=fun xs ⟨fw,T⟩ t ht=>
   (u7 xs false fw T t ht).resolve_right fun h=>by cases h.2.1
  have first:∀ (n b k:Nat),kp=true->(sos.map ca)[b]?=some (some n)->k<=b->k<=sos.length->b<M->r.getD b false=false->((S k).s n).firm=true->qQ z (cH (sos.map ca) M (fun i=>r.getD i false)) (S M).s n=(S k).s n:=fun n b k qx hb r8 qc qy qk C=>by
   rw[oC (U:=cH (sos.map ca) M (fun i=>r.getD i false)) ⟨b,qy,hb,qk⟩]
   have h0:=Dy hS (a:=0) (n:=n) k (V0 _) qc (fun i _ h5 h=>by have:=s7 b i n hb h;omega) C
   rw[<-h0]
   exact qu qx n (by rw[h0];exact C)
  unfold wpOp
  simp only[ho]
  by_cases hX:Bv so=true
  ·
   have qm:j=M:=by
    rcases VR j M with h9|s0
    ·have:=v4 j h9 (by simpa[fX,B] using hX)
     rw[s1] at this;cases this
    ·omega
   subst qm
   obtain⟨e,r3,qz,qa,qn⟩:∃ (e:Option Nat) (r3:SO),e=ca so/\l4 P c.N ops o r3=true/\AO P r3 ⟨qQ z (cH (sos.map ca) j (fun i=>r.getD i false)) (S j).s,(S j).h⟩ (· =⟨qQ z (fun t=>cH (sos.map ca) j (fun i=>r.getD i false) t/\e≠some t) (S (j+1)).s,(S (j+1)).h⟩):=by
    cases so<;>simp[Bv] at hX
    ·rename_i d op late
     obtain⟨p,G,Y,g⟩:=hS j _ B
     have T:∃ fw,tV kp false fw ops sos (sos.map ca) j o (IR op)=true:=by
      simp only[wb,Vj] at u6;exact⟨_,u6.1.1.2⟩
     have qA:=NJ hz (U:=cH (sos.map ca) j (fun i=>r.getD i false)) G (fun x hx t ht=>(u2 _ T t (ht▸hx)).1)
     refine⟨tT d op,.x d op [],rfl, ?_, ?_⟩
     ·have:=v1 j o _ (by simpa using ho) B
      simpa only[l4,ga] using this
     ·simp only[AO,qA,su,and_true];exact Y
    ·rename_i d f args late
     obtain⟨F,as,res,q1,q2,q3,q4,q5,g⟩:=hS j _ B
     have T:∃ fw,tV kp false fw ops sos (sos.map ca) j o (f::args)=true:=by
      simp only[wb,Vj] at u6;exact⟨_,u6.1.1.2⟩
     refine⟨some d,.q d f args [],rfl, ?_, ?_⟩
     ·have:=v1 j o _ (by simpa using ho) B
      simpa only[l4,ga] using this
     ·have qd:∀ x∈f::args,ev (qQ z (cH (sos.map ca) j (fun i=>r.getD i false)) (S j).s) x=ev (S j).s x:=fun x hx=>oE fun t ht=>(u2 _ T t (ht▸hx)).1
      have r4:args.map (ev (qQ z (cH (sos.map ca) j (fun i=>r.getD i false)) (S j).s))=args.map (ev (S j).s):=Wc fun x hx=>qd x (by simp[hx])
      exact⟨F,as,res,_,by rw[<-q1];exact qd f oS,by rw[<-q2];simp only[r4],q3,q4,Ib hz q5,trivial,rfl⟩
   refine xm D qa qn fun O W h7 a' w' h8 hk=> ?_
   subst hk
   obtain⟨M',h1,h2,E,h4⟩:=Q0 (fX sos) sos.length (j+1) oM
   obtain⟨q1,q2⟩:=zm hS M' h1 h2 E
   have qo:bt ⟨qQ z (fun t=>cH (sos.map ca) j (fun i=>r.getD i false) t/\e≠some t) (S (j+1)).s,(S (j+1)).h⟩ ⟨qQ z (cH (sos.map ca) M' (fun i=>(r.setIfInBounds j true).getD i false)) (S M').s,(S M').h⟩:=by
    refine tU (fun t=> ?_) (fun i=> .inl (by simp only[q1]))
    by_cases hU:cH (sos.map ca) M' (fun i=>(r.setIfInBounds j true).getD i false) t
    ·show qQ z (cH (sos.map ca) M' (fun i=>(r.setIfInBounds j true).getD i false)) (S M').s t=qQ z (fun t=>cH (sos.map ca) j (fun i=>r.getD i false) t/\e≠some t) (S (j+1)).s t\/qQ z (cH (sos.map ca) M' (fun i=>(r.setIfInBounds j true).getD i false)) (S M').s t=_
     by_cases hV:cH (sos.map ca) j (fun i=>r.getD i false) t/\e≠some t
     ·rw[oC hU,oC (U:=fun t=>cH (sos.map ca) j (fun i=>r.getD i false) t/\e≠some t) hV];exact .inl rfl
     ·rw[oC hU,gG (U:=fun t=>cH (sos.map ca) j (fun i=>r.getD i false) t/\e≠some t) hV]
      rcases qv t with h|⟨h,C⟩
      ·exact .inr h
      ·refine .inl ?_
       obtain⟨i,v9,u1,r5⟩:=hU
       have r0:j<i:=by
        rcases VR j i with h'|h'
        ·exact h'
        ·exfalso
         simp only[u0,W_,Xs,ne_eq] at r5
         refine hV ⟨⟨i,by omega,u1,r5.1⟩,fun he=> ?_⟩
         rw[qz] at he
         have:=s7 j i t (by rw[w9 j so B,he]) u1
         omega
       rw[h]
       exact(NL hS (a:=0) C (j+1) (V0 _) oM fun q _ hq h'=>by have:=s7 i q t u1 h';omega).symm
    ·refine .inl ?_
     simp only[gG hU]
     rw[gG,q2 t]
     ·intro i hi h5 he
      refine hU ⟨i,h5,he, ?_⟩
      simp only[u0,s2 i oM,Wm,Xs,ne_eq]
      omega
     ·rintro⟨⟨i,v9,u1,r5⟩,_⟩
      refine hU ⟨i,by omega,u1, ?_⟩
      simp only[u0,r5,Wm,Xs,ne_eq]
      omega
   obtain⟨qh,w4,r9⟩:=qo _ _ _ _ _ h8
   refine ih (r.setIfInBounds j true) M' qh w4 a' w' (by simp[V]) w2 v5 h2 ?_ h4 ?_ r9
   ·intro i hi hx
    rw[u0]
    by_cases r0:i=j
    ·simp[r0]
    ·rcases VR i j with h9|v0
     ·simp[v4 i h9 hx]
     ·rw[E i oM hi] at hx;cases hx
   ·intro i hi
    rw[u0,s2 i oM];simp;omega
  ·
   simp only[WK] at hX
   obtain⟨d,v,hd,hy,he⟩:=zl hX (hS j so B)
   have w5:ca so=some d:=by cases so<;>first|exact hd|simp[Bv] at hX
   have w8:(sos.map ca)[j]?=some (some d):=by rw[w9 j so B,w5]
   have qm:j<M:=by
    rcases hM with h|⟨h,hx⟩
    ·omega
    ·rcases VR j M with h'|h'
     ·exact h'
     ·obtain rfl:j=M:=by omega
      simp only[fX,B,hX] at hx;cases hx
   have T:tV kp (Uo so) (KC so) ops sos (sos.map ca) j o (Ly so)=true:=by
    simp only[wb,Vj] at u6
    have:=u6.1.1.2
    cases so<;>first|exact this|simp[Bv] at hX
   have w0:ap (qQ z (cH (sos.map ca) M (fun i=>r.getD i false)) (S M).s) d ((S M).s d)=qQ z (cH (sos.map ca) M (fun i=>(r.setIfInBounds j true).getD i false)) (S M).s:=by
    funext t
    by_cases ht:t=d
    ·subst ht
     rw[aC,gG]
     rintro⟨i,_,u1,r5⟩
     have:=s7 j i t w8 u1
     subst this
     simp[u0] at r5
    ·rw[bh _ _ _ _ ht]
     by_cases hU:cH (sos.map ca) M (fun i=>r.getD i false) t
     ·rw[oC hU,oC]
      obtain⟨i,v9,u1,r5⟩:=hU
      refine⟨i,v9,u1, ?_⟩
      simp only[u0,r5,Wm,Xs,ne_eq]
      intro r0
      subst r0
      rw[w8] at u1;simp at u1;exact ht u1.symm
     ·rw[gG hU,gG]
      rintro⟨i,v9,u1,r5⟩
      exact hU ⟨i,v9,u1,by simp only[u0,W_] at r5;exact r5.1⟩
   have key:∃ r3,l4 P c.N ops o r3=true/\lW r3=some d/\YS P (S M).h r3 (qQ z (cH (sos.map ca) M (fun i=>r.getD i false)) (S M).s) ((S M).s d):=by
    rcases Tt (fX sos) j M oM with r2|⟨p,u9,v6,qe,qs⟩
    ·obtain⟨q1,q2⟩:=zm hS M oM w3 r2
     obtain⟨q3,q4⟩:=zm hS (a:=j+1) M oM w3 (fun i hi h5=>r2 i oM h5)
     have hv:(S M).s d=v:=by
      rw[q4 d fun i hi h5 h=>by have:=s7 j i d w8 h;omega,he]
      simp[aC]
     refine⟨so,v1 j o so (by simpa using ho) B,hd, ?_⟩
     rw[hv,q1]
     refine zd (s:=(S j).s) (fun x hx=> ?_) hy
     cases x with
     |t n=>
      show(S j).s n=qQ z _ (S M).s n
      rcases u7 _ _ _ T n hx with⟨o1,o2⟩|⟨k1,k2,b,k3,k4,k5,k6,k7,_⟩
      ·rw[gG o1,q2 n fun i hi h5 h=>by have:=o2 i h;omega]
      ·refine(first n b j k1 k3 oM oM k5 k6 ?_).symm
       rcases k7 with k7|⟨p,m1,m2,m3⟩
       ·cases so<;>simp only[KC,Vw] at k7
        obtain⟨pp,A,_⟩:=hy
        exact KD A k7 hx
       ·have:=r2 p m1 oM
        rw[m3] at this;cases this
     |c v=>rfl
     |f i=>rfl
    ·have qB:j<p:=by
      rcases VR j p with h|h
      ·exact h
      ·obtain rfl:p=j:=by omega
       simp only[fX,B,hX] at qe;cases qe
     obtain⟨sp,s8⟩:=R p oM
     have qp:Bv sp=true:=by simpa[fX,s8] using qe
     have qt:=u5 p ops[p] sp (WN oM) s8
     simp only[wb,Vj] at qt
     have hl:=VN.1 qt.2 j (Wh.2 qB)
     simp only[B,hX,qp,Vt,Wm,Vw,VQ,V8] at hl
     have qb:=v4 p v6 qe
     have qq:su (S (p+1)) (At sp):=by
      cases sp<;>simp[Bv] at qp
      ·obtain⟨_,_,_,g⟩:=hS p _ s8;exact g
      ·obtain⟨_,_,_,_,_,_,_,_,g⟩:=hS p _ s8;exact g
     rcases hl with(hl|hl)|hl
     rotate_left 2
     ·obtain⟨d2,F,args,ts,e1,e2,e3⟩:=yz hl qq
      rw[B] at e1;simp only[Vi] at e1;subst e1
      simp only[lW,Vi] at hd;subst hd
      obtain⟨q1,q2⟩:=zm hS (a:=p+1) M oM w3 (fun i hi h5=>qs i oM h5)
      have v8:∀ n,n∈ts->(.t n:SX)∈args->(S j).s n=(S M).s n/\qQ z (cH (sos.map ca) M (fun i=>r.getD i false)) (S M).s n=(S M).s n/\((S M).s n).firm=true:=fun n hn qC=>by
       obtain⟨o1,o2⟩:=u2 _ ⟨_,by simpa only[Uo] using T⟩ n (by simp[Ly,qC])
       have h1:(S M).s n=(S (p+1)).s n:=q2 n fun i hi h5 h=>by have:=o2 i h;omega
       have h2:=Bw e3 n hn
       have E:=Dy hS (a:=j) (n:=n) (p+1) oM oM (fun i hi h5 h=>by have:=o2 i h;omega) h2
       exact⟨by rw[h1,E],gG o1,by rw[h1];exact h2⟩
      have qd:∀ x∈args,ev (S j).s x=ev (qQ z (cH (sos.map ca) M (fun i=>r.getD i false)) (S M).s) x/\∃ v,(ev (S j).s x).toDV=some v:=fun x hx=>by
       rcases e2 x hx with⟨n,rfl,hn⟩|⟨v,rfl,hv⟩
       ·obtain⟨k1,k2,k3⟩:=v8 n hn hx
        refine⟨by simp only[ev];rw[k2,k1], ?_⟩
        simp only[ev];rw[k1];exact Fy _ k3
       ·exact⟨rfl,Wo.1 hv⟩
      have s3:args.map (ev (qQ z (cH (sos.map ca) M (fun i=>r.getD i false)) (S M).s))=args.map (ev (S j).s):=Wc fun x hx=>((qd x hx).1).symm
      obtain⟨J,L⟩:∃ J,SV.toDVs (args.map (ev (S j).s))=some J:=by
       have:∀ l:List SX,(∀ x∈l,∃ v,(ev (S j).s x).toDV=some v)->∃ J,SV.toDVs (l.map (ev (S j).s))=some J:=fun l=>by
        induction l with
        |nil=>intro _;exact⟨[],rfl⟩
        |cons x l ih=>
         intro h
         obtain⟨v,hv⟩:=h x oS
         obtain⟨J,L⟩:=ih fun y hy=>h y (by simp[hy])
         exact⟨v::J,by simp only[VF,SV.toDVs,hv,L]⟩
       exact this args fun x hx=>(qd x hx).2
      simp only[YS,ev,l5 _ _ _ L] at hy
      obtain⟨res,y1,_,rfl⟩:=hy
      have qD:(S M).s d2= .d res:=PT hS (a:=j+1) (by rw[he];simp[ap]) M oM w3 fun i hi h5 h=>by have:=s7 j i d2 w8 h;omega
      refine⟨.c d2 (.f F) args,v1 j o _ (by simpa using ho) B,rfl, ?_⟩
      simp only[YS,ev,s3,l5 _ _ _ L]
      exact⟨res,y1,.inl (by rw[L];rfl),qD⟩
     ·exfalso
      have:=l3 h6 p [p] (by simpa using qb) hl
      rw[s1] at this;cases this
     ·have g:su (S (p+1)) (At sp):=by
       cases sp<;>simp[Bv] at qp
       ·obtain⟨_,_,_,g⟩:=hS p _ s8;exact g
       ·obtain⟨_,_,_,_,_,_,_,_,g⟩:=hS p _ s8;exact g
      obtain⟨d2,w6,o2,k1,k2,kk⟩:=Bx hl g
      rw[ho] at k2;simp only[Vi] at k2;subst k2
      rw[w8] at k1;simp only[Vi] at k1;subst k1
      obtain⟨q1,q2⟩:=zm hS (a:=p+1) M oM w3 (fun i hi h5=>qs i oM h5)
      have ql:(S M).s d=(S (p+1)).s d:=q2 d fun i hi h5 h=>by have:=s7 j i d w8 h;omega
      have w7:∀ (xs:List SX) (fo:Bool),tV kp fo true ops sos (sos.map ca) j o xs=true->∀ n,.t n∈xs->(fo=true->((S (p+1)).s n).firm=true)->qQ z (cH (sos.map ca) M (fun i=>r.getD i false)) (S M).s n=(S (p+1)).s n:=fun xs fo T n hx qE=>by
       rcases u7 _ _ _ T n hx with⟨o1,o3⟩|⟨m1,m2,b,m3,m4,m5,m6,_,m7⟩
       ·rw[gG o1,q2 n fun i hi h5 h=>by have:=o3 i h;omega]
       ·have:=m7 p v6 qe
        exact first n b (p+1) m1 m3 oM oM m5 m6 (qE m2)
      have qf:∀ {w6:sA} {v:SV} {pp:Prop},rd (S (p+1)).h (S (p+1)).s w6=some (pp,v)->∀ n,.t n∈tC w6->(v_ w6||Dx w6 (At sp))=true->((S (p+1)).s n).firm=true:=fun hv n hn C=>by
       rw[V8] at C
       rcases C with C|C
       ·exact KD hv C hn
       ·exact JF C g hn
      rcases kk with⟨k3,k4,k5,pp,k6,k7⟩|⟨gt,gw,k4,k5,pp,k6,k7⟩
      ·refine⟨.r d w6,by simp only[l4,k3,k4];rfl,rfl,pp, ?_,k7⟩
       rw[q1,ql,<-k6]
       refine C5 fun x hx=> ?_
       cases x with
       |t n=>exact w7 _ _ k5 n hx (qf k6 n hx)
       |c v=>rfl
       |f i=>rfl
      ·have u4:((S (p+1)).s gt).firm=true:=by
        simp only[QW] at k6
        split at k6
        ·rename_i hb;rw[hb];rfl
        ·rename_i hb;rw[hb];rfl
        ·cases k6
       have e1:=w7 _ _ k5 gt oS (fun _=>u4)
       refine⟨.g gt gw (some d) (.r d w6),k4,by simp[lW], ?_⟩
       simp only[YS]
       simp only[QW] at k6
       split at k6
       ·rename_i b hb
        split at k6
        ·rename_i r1
         refine .inl ⟨b,e1.trans hb,.inl ⟨r1,pp, ?_,k7⟩⟩
         rw[q1,ql,<-k6]
         refine C5 fun x hx=> ?_
         cases x with
         |t n=>exact w7 _ _ k5 n (Wx _ hx) (qf k6 n hx)
         |c v=>rfl
         |f i=>rfl
        ·rename_i r1
         simp only[Vi,Vm] at k6
         refine .inl ⟨b,e1.trans hb,.inr ⟨?_,ql.trans k6.2.symm⟩⟩
         exact PU r1
       ·rename_i hb
        simp only[Vi,Vm] at k6
        exact .inr ⟨e1.trans hb,ql.trans k6.2.symm⟩
       ·cases k6
   obtain⟨r3,r6,m,s4⟩:=key
   refine xm D r6 (Fk m s4) fun O W h7 a' w' h8 hk=> ?_
   subst hk
   refine ih (r.setIfInBounds j true) M W h7 a' w' (by simp[V]) w2 v5 w3 ?_ hM ?_ ?_
   ·intro i hi hx;rw[u0,v4 i hi hx];rfl
   ·intro i hi;rw[u0,s2 i hi];simp;omega
   ·rw[<-w0];exact h8
theorem DB (hQ:∀ O W h7 a' w',dp c O W h7 a' w'->K O->Q .normal a' w') (Z:a_ P c.N ops ops.toList sos=true) (u3:yx true P c.N ops sos (sos.map ca) 0 ops.toList sos=true) (r6:∀ U,∃ W h7,dp c ⟨qQ (rT σ.s) U σ.s,σ.h⟩ W h7 a w) (h:aI P K sos σ):
  wpAny P .any ops Q ops.size (Array.replicate ops.size false) a {w with drawn:=w.drawn+1}:=by
 obtain⟨s9,v1⟩:=hL Z
 have I:sos.length=ops.size:=by simp at s9;omega
 obtain⟨S,b,hS,hK⟩:=Cj sos σ (fun so B=>by
  obtain⟨j,hj,r4⟩:=XG B
  have:=tW u3 j ops[j] so oS (by rw[Vu hj,r4])
  simp only[wb,Vj] at this
  exact this.1.1.1.1) h
 obtain⟨M,h1,h2,E,h4⟩:=Q0 (fX sos) sos.length 0 oM
 have V:∀ i,(Array.replicate ops.size false).getD i false=false:=fun i=>by
  by_cases hi:i<ops.size<;>simp[hi]
 obtain⟨W,h7,D⟩:=r6 (cH (sos.map ca) M (fun i=>(Array.replicate ops.size false).getD i false))
 refine yA (c:=c) hQ Z (LM σ.s) (fun _ t h=>by rw[b] at h⊢;simp[rT,h]) (fun t=>by rw[b];exact Id σ.s t) u3 hS hK ops.size _ M W h7 a _ oS ?_ ?_ h2 ?_ h4 (fun i _=>V i) ?_
 ·have:Bi ops.size (Array.replicate ops.size false)=List.range ops.size:=by
   unfold Bi
   rw[List.filter_eq_self]
   intro i hi
   simp at hi
   simp[hi]
  rw[this];simp
 ·intro i o hi
  rw[V] at hi;cases hi
 ·intro i hi hx
  rw[E i oM hi] at hx;cases hx
 ·obtain⟨q1,q2⟩:=zm hS M h1 h2 (fun i hi h5=>E i hi h5)
  rw[q1,b]
  have:qQ (rT σ.s) (cH (sos.map ca) M (fun i=>(Array.replicate ops.size false).getD i false)) (S M).s=qQ (rT σ.s) (cH (sos.map ca) M (fun i=>(Array.replicate ops.size false).getD i false)) σ.s:=by
   refine Fw fun t ht=> ?_
   rw[q2 t fun i hi h5 he=>ht ⟨i,h5,he,V i⟩,b]
  rw[this]
  exact D.grown ((Below.refl _ _).drew)
theorem GO (p:P.follows .mixedOrders=true) (hQ:∀ O W h7 a' w',dp c O W h7 a' w'->K O->Q .normal a' w') (Z:a_ P c.N ops ops.toList sos=true) (u3:yx true P c.N ops sos (sos.map ca) 0 ops.toList sos=true) (r6:∀ U,∃ W h7,dp c ⟨qQ (rT σ.s) U σ.s,σ.h⟩ W h7 a w) (h:aI P K sos σ):
  (Code.region id ops true).wp P Q a w:=wp_region_any p (DB hQ Z u3 r6 h)
end
def dT (π:List Nat) (ops:Array Oper):Array Oper:=
 (π.filterMap fun i=>(ops[i]?).map fun o=>{o with after:=o.after.map fun e=>{e with on:=π.idxOf e.on}}).toArray
def ny (π:List Nat) (ops:Array Oper):Bool:=
 π.length==ops.size&&π.all (fun i=>decide (i<ops.size))&&(List.range ops.size).all (fun i=>π.contains i)&&decide π.Nodup&&ops.all (fun o=>o.guard==none)
theorem lA {α β:Type} {f:α->Option β} {g:α->β}:∀ {l:List α},(∀ x∈l,f x=some (g x))->l.filterMap f=l.map g
 |[],_=>rfl
 |x::l,h=>by rw[List.filterMap_cons_some (h x oS),lA fun y hy=>h y (by simp[hy])];rfl
theorem DC (Y:ny π ops=true):∀ (u:Nat) (r b:Array Bool) (a:Act) (w:World),r.size=ops.size->b.size=ops.size->
  (∀ k i:Nat,π[k]?=some i->b.getD k false=r.getD i false)->wpAny P .any (dT π ops) Q u b a w->wpAny P .any ops Q u r a w:=by
 simp only[ny,Vj,Vz,Vv,VN,WR,Wh,List.contains_iff_mem] at Y
 obtain⟨⟨⟨⟨I,h9⟩,M⟩,G⟩,L⟩:=Y
 have F:(dT π ops).size=ops.size:=by
  unfold dT
  rw[lA (g:=fun i=>{(ops.getD i ⟨none,.move (.tmp 0),0, "",#[],none⟩) with after:=((ops.getD i ⟨none,.move (.tmp 0),0, "",#[],none⟩).after.map fun e=>{e with on:=π.idxOf e.on})})]
  ·simp[I]
  ·intro i hi
   have:=h9 i hi
   simp[this]
 have R:∀ k i:Nat,π[k]?=some i->∃ o,ops[i]?=some o/\(dT π ops)[k]?=some {o with after:=o.after.map fun e=>{e with on:=π.idxOf e.on}}:=by
  intro k i hk
  have hi:i<ops.size:=h9 i (Vq hk)
  refine⟨ops[i],by simp, ?_⟩
  unfold dT
  rw[lA (g:=fun i=>{(ops.getD i ⟨none,.move (.tmp 0),0, "",#[],none⟩) with after:=((ops.getD i ⟨none,.move (.tmp 0),0, "",#[],none⟩).after.map fun e=>{e with on:=π.idxOf e.on})})]
  ·simp[hk,hi]
  ·intro j hj
   have:=h9 j hj
   simp[this]
 have s1:∀ i:Nat,i<ops.size->π[π.idxOf i]?=some i:=by
  intro i hi
  have:=M i hi
  rw[Vu (List.idxOf_lt_length_iff.2 this),List.getElem_idxOf]
 have H:∀ (r b:Array Bool),r.size=ops.size->b.size=ops.size->(∀ k i:Nat,π[k]?=some i->b.getD k false=r.getD i false)->∀ k i:Nat,π[k]?=some i->(k∈Region.ready .any (dT π ops) b↔i∈Region.ready .any ops r):=by
  intro r b h1 h2 hl k i hk
  obtain⟨o,ho,ho'⟩:=R k i hk
  have hi:i<ops.size:=(VV.1 ho).1
  have r5:k<ops.size:=by have:=(Vr.1 hk).1;omega
  have hd:b.getD k true=r.getD i true:=by
   have:=hl k i hk
   have a1:b.getD k false=b.getD k true:=by simp[V2,h2,r5]
   have a2:r.getD i false=r.getD i true:=by simp[V2,h1,hi]
   rw[<-a1,<-a2];exact this
  have q:∀ x:Nat,b.getD (π.idxOf x) false=r.getD x false:=by
   intro x
   by_cases hx:x<ops.size
   ·exact hl _ _ (s1 x hx)
   ·have p:x∉π:=fun Z=>hx (h9 x Z)
    rw[List.idxOf_eq_length p]
    simp[V2,h1,h2,I,hx]
  rw[mem_ready,mem_ready,hd]
  constructor
  ·rintro⟨q1,o2,q2,q3⟩
   rw[ho'] at q2;simp only[Vi] at q2;subst q2
   refine⟨q1,o,ho,fun e he hb=> ?_⟩
   have:=q3 {e with on:=π.idxOf e.on} (by simp only[Array.mem_map];exact⟨e,he,rfl⟩) hb
   rw[<-q];exact this
  ·rintro⟨q1,o2,q2,q3⟩
   rw[ho] at q2;simp only[Vi] at q2;subst q2
   refine⟨q1,_,ho',fun e he hb=> ?_⟩
   simp only[Array.mem_map] at he
   obtain⟨e0,v9,rfl⟩:=he
   rw[q];exact q3 e0 v9 hb
 have f:∀ (r b:Array Bool),r.size=ops.size->b.size=ops.size->(∀ k i:Nat,π[k]?=some i->b.getD k false=r.getD i false)->Region.ready .any ops r=[]->Region.ready .any (dT π ops) b=[]:=by
  intro r b h1 h2 hl hn
  cases D:Region.ready .any (dT π ops) b with
  |nil=>rfl
  |cons k l=>
   exfalso
   have hk:k∈Region.ready .any (dT π ops) b:=by rw[D];simp
   obtain⟨_,o,ho,_⟩:=mem_ready.1 hk
   have r2:k<π.length:=by have:=(VV.1 ho).1;omega
   have:=(H r b h1 h2 hl k π[k] (Vu r2)).1 hk
   rw[hn] at this;simp at this
 intro u
 induction u with
 |zero=>
  intro r b a w h1 h2 hl h
  refine⟨?_,h.2⟩
  cases D:Region.ready .any ops r with
  |nil=>rfl
  |cons i l=>
   exfalso
   have hi:i∈Region.ready .any ops r:=by rw[D];simp
   obtain⟨_,o,ho,_⟩:=mem_ready.1 hi
   have:=(H r b h1 h2 hl _ _ (s1 i (VV.1 ho).1)).2 hi
   rw[h.1] at this;simp at this
 |succ u ih=>
  intro r b a w h1 h2 hl h
  refine⟨fun hn=>h.1 (f r b h1 h2 hl hn),fun i hi=> ?_⟩
  obtain⟨_,o,ho,_⟩:=mem_ready.1 hi
  have s:i<ops.size:=(VV.1 ho).1
  have hk:=s1 i s
  have r5:=(H r b h1 h2 hl _ _ hk).2 hi
  have E:=h.2 _ r5
  obtain⟨o2,r9,ho'⟩:=R _ _ hk
  rw[ho] at r9;simp only[Vi] at r9;subst r9
  have d:o.guard=none:=by simpa using L o (Array.mem_of_getElem? ho)
  unfold wpOp at E⊢
  simp only[ho'] at E
  simp only[ho]
  have O:Region.wanted o (yielded ops a.tmps)=true:=by simp[Region.wanted,d]
  have n:Region.wanted {o with after:=o.after.map fun e=>{e with on:=π.idxOf e.on}} (yielded (dT π ops) a.tmps)=true:=by simp[Region.wanted,d]
  rw[n,Wy rfl] at E
  rw[O,Wy rfl]
  have m:∀ a' w',wpAny P .any (dT π ops) Q u (b.setIfInBounds (π.idxOf i) true) a' w'->wpAny P .any ops Q u (r.setIfInBounds i true) a' w':=fun a' w'=>ih _ _ a' w' (by simp[h1]) (by simp[h2]) fun k j S=>by
   have r2:k<π.length:=(Vr.1 S).1
   by_cases r0:j=i
   ·subst r0
    have r1:k=π.idxOf j:=by
     have e1:=(Vr.1 S).2
     have e2:=(Vr.1 hk).2
     exact(List.getElem_inj G).1 (e1.trans e2.symm)
    subst r1
    simp[V2,h1,h2,s,I▸r2]
   ·have r1:π.idxOf i≠k:=fun e=>by
     subst e
     rw[hk] at S;simp at S;exact r0 S.symm
    rw[getD_set_ne false r1,getD_set_ne false (Ne.symm r0)]
    exact hl k j S
  rcases E with E|E
  ·exact .inl (Oper.wp_mono m E)
  ·exact .inr E
theorem JG (D:dp c σ κ φ a w) (hQ:∀ O W h7 a' w',dp c O W h7 a' w'->K O->Q .normal a' w') (Y:ny π ops=true) (Z:a_ P c.N (dT π ops) (dT π ops).toList sos=true) (u3:yx true P c.N (dT π ops) sos (sos.map ca) 0 (dT π ops).toList sos=true) (h:aI P K sos σ):
  wpAny P .any ops Q ops.size (Array.replicate ops.size false) a {w with drawn:=w.drawn+1}:=by
 have h1:=DB hQ Z u3 (fun U=>tU (σ:=σ) (O:=⟨qQ (rT σ.s) U σ.s,σ.h⟩) (fun t=>Ie σ.s U t) (fun _=> .inl rfl) _ _ _ _ _ D) h
 have I:π.length=ops.size:=by simp only[ny,Vj,Vz] at Y;exact Y.1.1.1.1
 have F:(dT π ops).size=ops.size:=by
  have:=Wf List.length (show(dT π ops).toList=_ from rfl)
  have h2:=Y
  simp only[ny,Vj,Vz,VN,Vv] at h2
  unfold dT
  rw[lA (g:=fun i=>{(ops.getD i ⟨none,.move (.tmp 0),0, "",#[],none⟩) with after:=((ops.getD i ⟨none,.move (.tmp 0),0, "",#[],none⟩).after.map fun e=>{e with on:=π.idxOf e.on})})]
  ·simp[I]
  ·intro i hi
   have:=h2.1.1.1.2 i hi
   simp[this]
 rw[F] at h1
 refine DC Y ops.size _ _ a _ oS oS (fun k i hk=> ?_) h1
 have r5:k<ops.size:=by have:=(Vr.1 hk).1;omega
 by_cases hi:i<ops.size<;>simp[V2,r5,hi]
theorem GP (p:P.follows .mixedOrders=true) (D:dp c σ κ φ a w) (hQ:∀ O W h7 a' w',dp c O W h7 a' w'->K O->Q .normal a' w') (Y:ny π ops=true) (Z:a_ P c.N (dT π ops) (dT π ops).toList sos=true) (u3:yx true P c.N (dT π ops) sos (sos.map ca) 0 (dT π ops).toList sos=true) (h:aI P K sos σ):
  (Code.region id ops true).wp P Q a w:=wp_region_any p (JG D hQ Y Z u3 h)
def f0 (ops:Array Oper) (j i:Nat):Array Oper:=match ops[j]? with
 |some o=>ops.setIfInBounds j {o with after:=o.after.push ⟨i,.data⟩}
 |none=>ops
theorem tX (ho:ops[k]?=some o):(f0 ops j i)[k]?=some {o with after:=if k=j then o.after.push ⟨i,.data⟩ else o.after}:=by
 unfold f0
 by_cases hk:k=j
 ·subst hk
  have h9:k<ops.size:=(VV.1 ho).1
  simp only[ho,VW]
  simp[h9]
 ·simp only[hk,VQ]
  cases hj:ops[j]? with
  |none=>exact ho
  |some oj=>simp only;rw[Array.getElem?_setIfInBounds_ne (Ne.symm hk)];exact ho
theorem Fz (ho:ops[k]?=none):(f0 ops j i)[k]?=none:=by
 unfold f0
 cases hj:ops[j]? with
 |none=>exact ho
 |some oj=>
  have:ops.size<=k:=by simpa using ho
  simp;omega
theorem rx:(f0 ops j i).size=ops.size:=by
 unfold f0;cases ops[j]?<;>simp
theorem uB:k∈Region.ready .any (f0 ops j i) r↔k∈Region.ready .any ops r/\(k=j->r.getD i false=true):=by
 rw[mem_ready,mem_ready]
 constructor
 ·rintro⟨h1,o',ho',h2⟩
  cases ho:ops[k]? with
  |none=>rw[Fz ho] at ho';cases ho'
  |some o=>
   rw[tX ho] at ho'
   simp only[Vi] at ho'
   subst ho'
   refine⟨⟨h1,o,rfl,fun e he hb=>h2 e ?_ hb⟩,fun hk=> ?_⟩
   ·dsimp only;split
    ·exact Array.mem_push.2 (.inl he)
    ·exact he
   ·exact h2 ⟨i,.data⟩ (by dsimp only;rw[if_pos hk];exact Array.mem_push.2 (.inr rfl)) rfl
 ·rintro⟨⟨h1,o,ho,h2⟩,E⟩
  refine⟨h1,_,tX ho,fun e he hb=> ?_⟩
  dsimp only at he
  split at he
  ·rename_i hk
   rcases Array.mem_push.1 he with he|rfl
   ·exact h2 e he hb
   ·exact E hk
  ·exact h2 e he hb
theorem uC {K:Act->World->Prop} (ho:ops[k]?=some o) (L:o.guard=none):wpOp P ops Q k K a w↔(o.wp P a w K Q\/(o.asks P a w/\LetsOut Q)):=by
 have G:Region.wanted o (yielded ops a.tmps)=true:=by simp[Region.wanted,L]
 unfold wpOp
 simp only[ho,G,VW]
theorem Au {K:Act->World->Prop} (ho:ops[k]?=some o) (L:o.guard=none):wpOp P (f0 ops j i) Q k K a w↔(o.wp P a w K Q\/(o.asks P a w/\LetsOut Q)):=by
 have h:=uC (P:=P) (Q:=Q) (K:=K) (a:=a) (w:=w) (o:={o with after:=if k=j then o.after.push ⟨i,.data⟩ else o.after}) (tX (j:=j) (i:=i) ho) L
 exact h
theorem DE (L:∀ (k:Nat) (o:Oper),ops[k]?=some o->o.guard=none):∀ (u:Nat) (r:Array Bool) (a:Act) (w:World),r.getD i false=true->
  wpAny P .any (f0 ops j i) Q u r a w->wpAny P .any ops Q u r a w:=by
 intro u
 have B:∀ r:Array Bool,r.getD i false=true->∀ k,k∈Region.ready .any (f0 ops j i) r↔k∈Region.ready .any ops r:=fun r hl k=>by
  rw[uB];exact⟨fun h=>h.1,fun h=>⟨h,fun _=>hl⟩⟩
 have f:∀ r:Array Bool,r.getD i false=true->(Region.ready .any ops r=[]↔Region.ready .any (f0 ops j i) r=[]):=fun r hl=>by
  simp only[List.eq_nil_iff_forall_not_mem,B r hl]
 induction u with
 |zero=>intro r a w hl h;exact⟨(f r hl).2 h.1,h.2⟩
 |succ u ih=>
  intro r a w hl h
  refine⟨fun hn=>h.1 ((f r hl).1 hn),fun k hk=> ?_⟩
  obtain⟨_,o,ho,_⟩:=mem_ready.1 hk
  have E:=(Au ho (L k o ho)).1 (h.2 k ((B r hl k).2 hk))
  exact(uC ho (L k o ho)).2 (E.imp (Oper.wp_mono fun a' w'=>ih _ a' w' (getD_set_true hl)) id)
def DF (i:Nat) (ops:Array Oper) (π:List Nat) (u s2:List SO):Bool:=
 ops.all (fun o=>o.guard==none)&&decide (i+1<ops.size)&&(List.range i).all (fun k=>π[k]?==some k&& !fX u k)&&π[i]?==some (i+1)&&π[i+1]?==some i&&fX u i&&fX s2 i&&(List.range ops.size).all (fun k=>decide (k<i+2)||π[k]?==some k)
theorem xV (h6:∀ (i:Nat) o,r.getD i false=true->ops[i]?=some o->∀ e∈o.after,Region.binds .any e=true->r.getD e.on false=true) {m:Nat} (hj:r.getD j false=false):
  ∀ (x:Nat) o,r.getD x false=true->(f0 ops j m)[x]?=some o->∀ e∈o.after,Region.binds .any e=true->r.getD e.on false=true:=fun x o hx ho e he hb=>by
 cases u1:ops[x]? with
 |none=>rw[Fz u1] at ho;cases ho
 |some o'=>
  rw[tX u1] at ho
  simp only[Vi] at ho;subst ho
  have U:x≠j:=fun h=>by rw[h,hj] at hx;cases hx
  simp only[U,VQ] at he
  exact h6 x o' hx u1 e he hb
theorem JH {l q:List SO} {Z S2:Nat->St} (hQ:∀ O W h7 a' w',dp c O W h7 a' w'->K O->Q .normal a' w') (J:DF i ops π l q=true) (u9:l.take i=pre) (v6:q.take i=pre) (v4:pre.length=i) (s3:a_ P c.N (f0 ops (i+1) i) (f0 ops (i+1) i).toList l=true) (X:LN P c.N (f0 ops (i+1) i) l (l.map ca) 0 (f0 ops (i+1) i).toList l=true) (Y:ny π (f0 ops i (i+1))=true) (r8:a_ P c.N (dT π (f0 ops i (i+1))) (dT π (f0 ops i (i+1))).toList q=true) (r9:LN P c.N (dT π (f0 ops i (i+1))) q (q.map ca) 0 (dT π (f0 ops i (i+1))).toList q=true) (v7:∀ (j:Nat) (so:SO),l[j]?=some so->LL P so (Z j) (Z (j+1))) (w4:K (Z l.length)) (qf:∀ (j:Nat) (so:SO),q[j]?=some so->LL P so (S2 j) (S2 (j+1))) (w6:K (S2 q.length)) (qg:S2 i=Z i):
  ∀ (u:Nat) (r:Array Bool) (κ:Nat->Value) (φ:Nat->List Nat) (a:Act) (w:World),r.size=ops.size->(Bi ops.size r).length=u->
   (∀ (x:Nat) o,r.getD x false=true->ops[x]?=some o->∀ e∈o.after,Region.binds .any e=true->r.getD e.on false=true)->(∀ k,i<=k->r.getD k false=false)->
   dp c ⟨er (cH (l.map ca) i (fun k=>r.getD k false)) (Z i).s,(Z i).h⟩ κ φ a w->wpAny P .any ops Q u r a w:=by
 simp only[DF,Vj,Vv,VN,Wh,Vz,Wb,V8] at J
 obtain⟨⟨⟨⟨⟨⟨⟨v3,F⟩,C⟩,qm⟩,qn⟩,w7⟩,qh⟩,qi⟩:=J
 have L:∀ (k:Nat) (o:Oper),ops[k]?=some o->o.guard=none:=fun k o ho=>by
  have:=(WR.1 v3) o (Array.mem_of_getElem? ho)
  simpa using this
 obtain⟨s9,v1⟩:=hL s3
 have qj:l.length=ops.size:=by simp[rx] at s9;omega
 have A:(dT π (f0 ops i (i+1))).size=ops.size:=by
  have m:=Y
  simp only[ny,Vj,Vz,VN,Vv] at m
  unfold dT
  rw[lA (g:=fun k=>{((f0 ops i (i+1)).getD k ⟨none,.move (.tmp 0),0, "",#[],none⟩) with after:=(((f0 ops i (i+1)).getD k ⟨none,.move (.tmp 0),0, "",#[],none⟩).after.map fun e=>{e with on:=π.idxOf e.on})})]
  ·have:=m.1.1.1.1;simp[rx] at this⊢;exact this
  ·intro k hk
   have:=m.1.1.1.2 k hk
   simp[this]
 have r0:q.length=ops.size:=by
  obtain⟨h,_⟩:=hL r8
  have e:(dT π (f0 ops i (i+1))).toList.length=ops.size:=by rw[Array.length_toList];exact A
  omega
 have s1:∀ y,y<i->π.idxOf y=y:=fun y hy=>by
  have h1:=(C y hy).1
  have G:π.Nodup:=by
   have m:=Y
   simp only[ny,Vj,Vv] at m
   exact m.1.2
  obtain⟨h9,he⟩:=Vr.1 h1
  have M:y∈π:=Vq h1
  have N:=List.idxOf_lt_length_iff.2 M
  have h2:=List.getElem_idxOf N
  exact(List.getElem_inj G).1 (h2.trans he.symm)
 have u4:∀ k,k<i->(q.map ca)[k]?=(l.map ca)[k]?:=fun k hk=>by
  have e1:l[k]?=pre[k]?:=by rw[<-u9,WH hk]
  have e2:q[k]?=pre[k]?:=by rw[<-v6,WH hk]
  simp[e1,e2]
 intro u
 induction u with
 |zero=>
  intro r κ φ a w V hu _ s2 D
  exfalso
  have:i∈Bi ops.size r:=by
   simp only[Bi,Xx,Wh]
   refine⟨by omega, ?_⟩
   have h0:=s2 i (Vs _)
   have:i<r.size:=by omega
   simp[this] at h0⊢;exact h0
  rw[Vx.1 hu] at this;simp at this
 |succ u ih=>
  intro r κ φ a w V hu h6 s2 D
  have v8:wpAny P .any (f0 ops (i+1) i) Q (u+1) r a w:=
   yA (c:=c) hQ s3 (z:=fun _=> .d .any) (fun _ _=>rfl) (fun h=>by cases h) (fun _=> .inl rfl) X v7 w4 (u+1) r i κ φ a w (by rw[rx];exact V) (by rw[rx];exact hu) (xV h6 (s2 (i+1) oM)) oM
    (fun k hk hx=>by rw[(C k hk).2] at hx;cases hx) (.inr ⟨by omega,w7⟩) s2 D
  have w8:wpAny P .any (f0 ops i (i+1)) Q (u+1) r a w:=by
   refine DC Y (u+1) r r a w (by rw[rx];exact V) (by rw[rx];exact V) (fun k y hk=> ?_) ?_
   ·rcases VR k i with r1|r1
    ·rw[(C k r1).1] at hk;simp at hk;rw[hk]
    ·have hy:i<=y:=by
      rcases VR y i with w3|w3
      ·exfalso
       have h1:=(C y w3).1
       have G:π.Nodup:=by
        have m:=Y
        simp only[ny,Vj,Vv] at m
        exact m.1.2
       obtain⟨l1,e1⟩:=Vr.1 h1
       obtain⟨l2,e2⟩:=Vr.1 hk
       have:=(List.getElem_inj G).1 (e1.trans e2.symm)
       omega
      ·exact w3
     rw[s2 k r1,s2 y hy]
   ·refine yA (c:=c) hQ r8 (z:=fun _=> .d .any) (fun _ _=>rfl) (fun h=>by cases h) (fun _=> .inl rfl) r9 qf w6 (u+1) r i κ φ a w (by rw[A];exact V) (by rw[A];exact hu) ?_ oM (fun k hk hx=> ?_) (.inr ⟨by omega,qh⟩) s2 ?_
    ·intro x o hx ho e he hb
     have r6:x<i:=by
      rcases VR x i with h|h
      ·exact h
      ·rw[s2 x h] at hx;cases hx
     cases u1:ops[x]? with
     |none=>
          have:ops.size<=x:=by simpa using u1
          omega
     |some ox=>
      have w9:=(C x r6).1
      have R:(dT π (f0 ops i (i+1)))[x]?=some {ox with after:=ox.after.map fun e=>{e with on:=π.idxOf e.on}}:=by
       have m:=Y
       simp only[ny,Vj,Vz,VN,Vv] at m
       unfold dT
       rw[lA (g:=fun k=>{((f0 ops i (i+1)).getD k ⟨none,.move (.tmp 0),0, "",#[],none⟩) with after:=(((f0 ops i (i+1)).getD k ⟨none,.move (.tmp 0),0, "",#[],none⟩).after.map fun e=>{e with on:=π.idxOf e.on})})]
       ·have U:x≠i:=by omega
        have:=tX (j:=i) (i:=i+1) u1
        simp only[U,VQ] at this
        simp[w9,this]
       ·intro k hk
        have:=m.1.1.1.2 k hk
        simp[this]
      rw[R] at ho
      simp only[Vi] at ho;subst ho
      simp only[Array.mem_map] at he
      obtain⟨e0,v9,rfl⟩:=he
      have h1:=h6 x ox hx u1 e0 v9 hb
      have h9:e0.on<i:=by
       rcases VR e0.on i with h|h
       ·exact h
       ·rw[s2 _ h] at h1;cases h1
      simp only[s1 _ h9];exact h1
    ·have e1:l[k]?=pre[k]?:=by rw[<-u9,WH hk]
     have e2:q[k]?=pre[k]?:=by rw[<-v6,WH hk]
     have E:=(C k hk).2
     simp only[fX,e2] at hx
     simp only[fX,e1] at E
     rw[E] at hx;cases hx
    ·rw[qg]
     have:cH (q.map ca) i (fun k=>r.getD k false)=cH (l.map ca) i (fun k=>r.getD k false):=by
      funext t
      apply propext
      constructor
      ·rintro⟨k,h1,h2,E⟩;exact⟨k,h1,by rw[<-u4 k h1];exact h2,E⟩
      ·rintro⟨k,h1,h2,E⟩;exact⟨k,h1,by rw[u4 k h1];exact h2,E⟩
     rw[this];exact D
  have h5:Region.ready .any ops r=[]->Region.ready .any (f0 ops (i+1) i) r=[]:=fun h=>by
   rw[List.eq_nil_iff_forall_not_mem] at *
   exact fun k hk=>h k (uB.1 hk).1
  refine⟨fun hn=>v8.1 (h5 hn),fun k hk=> ?_⟩
  obtain⟨h0,o,ho,s6⟩:=mem_ready.1 hk
  have qc:k<r.size:=by rw[V];exact(VV.1 ho).1
  have I:(r.setIfInBounds k true).getD k false=true:=by simp[qc]
  by_cases r1:k=i
  ·subst r1
   have E:=(Au ho (L k o ho)).1 (v8.2 k (uB.2 ⟨hk,fun h=>by omega⟩))
   exact(uC ho (L k o ho)).2 (E.imp (Oper.wp_mono fun a' w'=>DE L u _ a' w' I) id)
  by_cases S:k=i+1
  ·subst S
   have E:=(Au ho (L _ o ho)).1 (w8.2 (i+1) (uB.2 ⟨hk,fun h=>by omega⟩))
   exact(uC ho (L _ o ho)).2 (E.imp (Oper.wp_mono fun a' w'=>DE L u _ a' w' I) id)
  have qo:r.getD k false=false:=by
   simp only[V2] at h0⊢
   simpa[qc] using h0
  have v5:=yp h6 ho s6 oM
  have u0:∀ x,(r.setIfInBounds k true).getD x false=(r.getD x false||x==k):=fun x=>by
   by_cases u7:k=x
   ·subst u7;simp[qc]
   ·rw[getD_set_ne false u7];simp[Ne.symm u7]
  have u5:∀ (j:Nat) oj so,(f0 ops (i+1) i)[j]?=some oj->l[j]?=some so->wb false P c.N (f0 ops (i+1) i) l (l.map ca) j oj so=true:=fun j oj so h1 h2=>by
   have:=tW X j oj so (by simpa using h1) h2
   simpa using this
  have qa:(f0 ops (i+1) i)[k]?=some o:=by
   have:=tX (j:=i+1) (i:=i) ho
   simpa only[S,VQ] using this
  have r2:k<l.length:=by omega
  obtain⟨so,B⟩:∃ so,l[k]?=some so:=⟨_,Vu r2⟩
  have u6:=u5 k o so qa B
  have qb:k<i:=by
   rcases VR k i with h|h
   ·exact h
   ·exfalso
    obtain⟨s0,H⟩:∃ s0,l[i]?=some s0:=⟨_,Vu oM⟩
    simp only[wb,Vj] at u6
    have h1:=VN.1 u6.2 i (Wh.2 oM)
    have v0:Bv s0=true:=by simpa[fX,H] using w7
    simp only[H,v0,VW] at h1
    have qd:∀ (x:Nat) ox,(r.setIfInBounds k true).getD x false=true->(f0 ops (i+1) i)[x]?=some ox->∀ e∈ox.after,Region.binds .any e=true->(r.setIfInBounds k true).getD e.on false=true:=
     xV v5 (by rw[u0,s2 (i+1) oM];simp;omega)
    have h2:=l3 qd k [k] (by simp[u0]) h1
    rw[u0,s2 i (Vs _)] at h2
    simp at h2;omega
  have hX:Bv so=false:=by have:=(C k qb).2;simpa[fX,B] using this
  obtain⟨d,v,hd,hy,he⟩:=zl hX (v7 k so B)
  have w5:ca so=some d:=by cases so<;>first|exact hd|simp[Bv] at hX
  have qe:(l.map ca)[k]?=some (some d):=by simp[B,w5]
  have s7:∀ (b:Nat),(l.map ca)[b]?=some (some d)->b=k:=fun b hb=>by
   have r4:=u6
   simp only[wb,Vj] at r4
   have:=VN.1 r4.1.2 b (Wh.2 (Vr.1 hb).1)
   simpa[qe,hb] using this
  have T:tV false (Uo so) (KC so) (f0 ops (i+1) i) l (l.map ca) k o (Ly so)=true:=by
   have r4:=u6
   simp only[wb,Vj] at r4
   have:=r4.1.1.2
   cases so<;>first|exact this|simp[Bv] at hX
  have u2:∀ t,.t t∈Ly so->¬ cH (l.map ca) i (fun x=>r.getD x false) t/\∀ b:Nat,(l.map ca)[b]?=some (some t)->b<k\/i<=b:=fun t ht=>by
   have u8:∀ p:Nat,fX l p=true->i<=p:=fun p Y=>by
    rcases VR p i with h|h
    ·rw[(C p h).2] at Y;cases Y
    ·exact h
   refine⟨fun⟨b,v2,r7,s5⟩=> ?_,fun b hb=> ?_⟩
   ·rcases uA T ht r7 with⟨_,e,he,w1,rfl⟩|⟨p,h1,h2,E,h4⟩|⟨k1,_⟩
    ·simp only[s6 e he w1] at s5;cases s5
    ·have:=u8 p E;omega
    ·cases k1
   ·rcases uA T ht hb with⟨h,_⟩|⟨p,h1,h2,E,h4⟩|⟨k1,_⟩
    ·exact .inl h
    ·exact .inr (by have:=u8 p E;omega)
    ·cases k1
  obtain⟨q1,q2⟩:=zm v7 (a:=k) i oM oM (fun x hx r3=>(C x r3).2)
  obtain⟨q3,q4⟩:=zm v7 (a:=k+1) i oM oM (fun x hx r3=>(C x r3).2)
  have hv:(Z i).s d=v:=by
   rw[q4 d fun x hx r3 h=>by have:=s7 x h;omega,he]
   simp[aC]
  have w0:ap (er (cH (l.map ca) i (fun x=>r.getD x false)) (Z i).s) d ((Z i).s d)=er (cH (l.map ca) i (fun x=>(r.setIfInBounds k true).getD x false)) (Z i).s:=by
   funext t
   by_cases ht:t=d
   ·subst ht
    rw[aC,Dw]
    rintro⟨x,_,s8,u3⟩
    have:=s7 x s8
    subst this
    simp[u0] at u3
   ·rw[bh _ _ _ _ ht]
    by_cases hU:cH (l.map ca) i (fun x=>r.getD x false) t
    ·rw[NH hU,NH]
     obtain⟨x,v0,s8,u3⟩:=hU
     refine⟨x,v0,s8, ?_⟩
     simp only[u0,u3,Wm,Xs,ne_eq]
     intro u7
     subst u7
     rw[qe] at s8;simp at s8;exact ht s8.symm
    ·rw[Dw hU,Dw]
     rintro⟨x,v0,s8,u3⟩
     exact hU ⟨x,v0,s8,by simp only[u0,W_] at u3;exact u3.1⟩
  have qk:l4 P c.N ops o so=true:=by
   have:=v1 k o so (by simpa using qa) B
   have ql:=L k o ho
   cases so<;>first
    |exact this
    |(simp only[l4,ql] at this⊢;first|exact this|(simp at this))
  have s4:YS P (Z i).h so (er (cH (l.map ca) i (fun x=>r.getD x false)) (Z i).s) ((Z i).s d):=by
   rw[hv,q1]
   refine zd (s:=(Z k).s) (fun x hx=> ?_) hy
   cases x with
   |t n=>
    obtain⟨o1,o2⟩:=u2 n hx
    show(Z k).s n=er _ (Z i).s n
    rw[Dw o1,q2 n fun x hx r3 h=>by have:=o2 x h;omega]
   |c v=>rfl
   |f i=>rfl
  have w2:(Bi ops.size (r.setIfInBounds k true)).length=u:=by
   have:=Gu oM V h0
   omega
  unfold wpOp
  simp only[ho]
  refine xm D qk (Fk hd s4) fun O W h7 a' w' h8 r5=> ?_
  subst r5
  refine ih (r.setIfInBounds k true) W h7 a' w' (by simp[V]) w2 v5 ?_ ?_
  ·intro x hx;rw[u0,s2 x hx];simp;omega
  ·rw[<-w0];exact h8
theorem GQ (p:P.follows .mixedOrders=true) {x1 x2:SO} {post:List SO} (D:dp c σ κ φ a w) (v4:pre.length=i) (hQ:∀ O W h7 a' w',dp c O W h7 a' w'->K O->Q .normal a' w') (J:DF i ops π (pre++x1::x2::post) (pre++x2::x1::post)=true) (s3:a_ P c.N (f0 ops (i+1) i) (f0 ops (i+1) i).toList (pre++x1::x2::post)=true) (X:LN P c.N (f0 ops (i+1) i) (pre++x1::x2::post) ((pre++x1::x2::post).map ca) 0 (f0 ops (i+1) i).toList (pre++x1::x2::post)=true) (v6:ny π (f0 ops i (i+1))=true) (r8:a_ P c.N (dT π (f0 ops i (i+1))) (dT π (f0 ops i (i+1))).toList (pre++x2::x1::post)=true) (r9:LN P c.N (dT π (f0 ops i (i+1))) (pre++x2::x1::post) ((pre++x2::x1::post).map ca) 0 (dT π (f0 ops i (i+1))).toList (pre++x2::x1::post)=true) (h:∃ S:Nat->St,S 0=σ/\(∀ (j:Nat) (so:SO),pre[j]?=some so->LL P so (S j) (S (j+1)))/\aI P K (x1::x2::post) (S i)/\aI P K (x2::x1::post) (S i)):(Code.region id ops true).wp P Q a w:=by
 obtain⟨S,h0,hS,hA,hB⟩:=h
 have b:∀ (z:List SO),(∀ so∈z,QZ so=true)->aI P K z (S i)->∃ m:Nat->St,(∀ k,k<=i->m k=S k)/\(∀ (j:Nat) (so:SO),(pre++z)[j]?=some so->LL P so (m j) (m (j+1)))/\K (m (pre++z).length):=fun z r5 D=>by
  obtain⟨R,r0,r1,r2⟩:=Cj z (S i) r5 D
  refine⟨fun k=>if k<=i then S k else R (k - i),fun k hk=>by simp[hk],fun j so hj=> ?_, ?_⟩
  ·rcases VR j i with h9|v0
   ·rw[V7 oM] at hj
    have h1:j<=i:=by omega
    have h2:j+1<=i:=by omega
    simp only[h1,h2,VW]
    exact hS j so hj
   ·rw[VP oM] at hj
    have h2:¬ j+1<=i:=by omega
    have e:j+1 - i=(j - pre.length)+1:=by omega
    have:=r1 (j - pre.length) so hj
    simp only[h2,VQ]
    by_cases f:j=i
    ·have e2:j - pre.length=0:=by omega
     rw[e2,r0] at this
     have E:j<=i:=by omega
     simp only[E,VW]
     rw[e,e2,f];exact this
    ·have E:¬ j<=i:=by omega
     simp only[E,VQ]
     rw[e]
     have q:j - i=j - pre.length:=by omega
     rw[q];exact this
  ·have h5:(pre++z).length - i=z.length:=by rw[Vl];omega
   by_cases hz:z.length=0
   ·have:z=[]:=Vx.1 hz
    subst this
    have h6:(pre++([]:List SO)).length<=i:=by simp;omega
    simp only[h6,VW]
    have n:(pre++([]:List SO)).length=i:=by simp;omega
    rw[n]
    simpa[aI] using D
   ·have h6:¬ (pre++z).length<=i:=by rw[Vl];omega
    simp only[h6,VQ,h5];exact r2
 have l:∀ so∈(x1::x2::post),QZ so=true:=fun so B=>by
  obtain⟨j,hj,r4⟩:=XG B
  obtain⟨s9,_⟩:=hL s3
  have hl:(pre++x1::x2::post)[pre.length+j]?=some so:=by rw[VP oM];simp[Vu hj,r4]
  have h9:pre.length+j<(f0 ops (i+1) i).size:=by have:=(Vr.1 hl).1;simp at s9 this;simp;omega
  have:=tW X (pre.length+j) (f0 ops (i+1) i)[pre.length+j] so (by simp[h9]) hl
  simp only[wb,Vj] at this
  exact this.1.1.1.1
 have g:∀ so∈(x2::x1::post),QZ so=true:=fun so B=>l so (by simp at B⊢;rcases B with h|h|h<;>simp[h])
 obtain⟨Z,a1,a2,a3⟩:=b _ l hA
 obtain⟨S2,b1,b2,b3⟩:=b _ g hB
 have d:=J
 simp only[DF,Vj,Vv,VN,Wh,Vz,Wb,V8] at d
 obtain⟨⟨⟨⟨⟨⟨⟨_,F⟩,C⟩,_⟩,_⟩,_⟩,_⟩,_⟩:=d
 refine wp_region_any p ?_
 have V:∀ k,(Array.replicate ops.size false).getD k false=false:=fun k=>by
  by_cases hi:k<ops.size<;>simp[hi]
 have r6:∃ W h7,dp c ⟨er (cH ((pre++x1::x2::post).map ca) i (fun k=>(Array.replicate ops.size false).getD k false)) σ.s,σ.h⟩ W h7 a w:=
  tU (σ:=σ) (O:=⟨er (cH ((pre++x1::x2::post).map ca) i (fun k=>(Array.replicate ops.size false).getD k false)) σ.s,σ.h⟩) (fun t=>by
   by_cases hU:cH ((pre++x1::x2::post).map ca) i (fun k=>(Array.replicate ops.size false).getD k false) t
   ·exact .inr (NH hU)
   ·exact .inl (Dw hU)) (fun _=> .inl rfl) _ _ _ _ _ D
 obtain⟨W,h7,h8⟩:=r6
 refine JH (c:=c) (pre:=pre) hQ J (by rw[List.take_left' v4]) (by rw[List.take_left' v4]) v4 s3 X v6 r8 r9 a2 a3 b2 b3 (by rw[a1 i (Vs _),b1 i (Vs _)]) ops.size _ W h7 a _ oS ?_ ?_ (fun k _=>V k) ?_
 ·have:Bi ops.size (Array.replicate ops.size false)=List.range ops.size:=by
   unfold Bi
   rw[List.filter_eq_self]
   intro k hk
   simp at hk
   simp[hk]
  rw[this];simp
 ·intro x o hx
  rw[V] at hx;cases hx
 ·obtain⟨q1,q2⟩:=zm a2 (a:=0) i oM (by rw[Vl];omega) (fun k _ hk=>(C k hk).2)
  rw[q1,a1 0 oM,h0]
  have:er (cH ((pre++x1::x2::post).map ca) i (fun k=>(Array.replicate ops.size false).getD k false)) (Z i).s=er (cH ((pre++x1::x2::post).map ca) i (fun k=>(Array.replicate ops.size false).getD k false)) σ.s:=by
   refine NI fun t ht=> ?_
   rw[q2 t fun k _ hk he=>ht ⟨k,hk,he,V k⟩,a1 0 oM,h0]
  rw[this]
  exact h8.grown ((Below.refl _ _).drew)
