/-
  My text.
-/
import Derived.Test.YtgocgdgknpdknaaGreatDoorSXEngK
namespace Go.Proofs.YtgocgdgknpdknaaGreatDoor
set_option linter.unusedSimpArgs false
set_option linter.unusedVariables false
open Go.RowKit
def As:Eu->List SX
 | .boxM x=>[x]
 | .st _ p v=>[p,v]
 | .app _ _ x y=>[x,y]
 | .appS _ x y=>[x,y]
 | .mkmap _=>[]
 | .mset _ m k v=>[m,k,v]
 | .trunc _ x hi=>[x,hi]
 | .slM _ _ xs=>xs
 | .mkS _ _ _ x y=>[x,y]
 | .bldM _ _=>[]
def n6 (d:Nat):Eu->Option Nat
 | .st _ _ _=>none
 | .mset _ _ _ _=>none
 |_=>some d
def yl:SO->Bool
 | .x _ _ _=>true
 | .q _ _ _ _=>true
 |_=>false
def bU:SO->Option Nat
 | .x d op _=>n6 d op
 | .q d _ _ _=>some d
 |so=>hJ so
def JM:SO->List SX
 | .x _ op _=>As op
 | .q _ f args _=>f::args
 |so=>ER so
def Jg (so:SO):Bool:=yl so||(hJ so).isSome
open Classical in
noncomputable def me (z:Nat->SV) (U:Nat->Prop) (s:Nat->SV):Nat->SV:=fun t=>if U t then z t else s t
theorem dK {z:Nat->SV} {U:Nat->Prop} {s:Nat->SV} {t:Nat} (h:¬ U t):me z U s t=s t:=by unfold me;simp[h]
theorem ln {z:Nat->SV} {U:Nat->Prop} {s:Nat->SV} {t:Nat} (h:U t):me z U s t=z t:=by unfold me;simp[h]
theorem D5 {z:Nat->SV} {U:Nat->Prop} {s s':Nat->SV} (h:∀ t,¬ U t->s t=s' t):me z U s=me z U s':=by
 funext t
 by_cases hu:U t
 ·rw[ln hu,ln hu]
 ·rw[dK hu,dK hu,h t hu]
theorem iZ {z:Nat->SV} {U:Nat->Prop} {s:Nat->SV} {x:SX} (h:∀ t,x= .t t->¬ U t):ev (me z U s) x=ev s x:=by
 cases x with
 |t n=>exact dK (h n rfl)
 |c v=>rfl
 |f i=>rfl
theorem go {z:Nat->SV} {U:Nat->Prop} {s:Nat->SV} {id d:Nat} {v:SV} (hz:∀ i t,eI i .any (z t)=z t):aI (gE id .any (me z U s)) d v=me z (fun t=>U t/\t≠d) (aI (gE id .any s) d v):=by
 funext t
 by_cases ht:t=d
 ·subst ht;rw[am,dK oS,am]
 ·rw[bd _ _ _ _ ht]
  by_cases hu:U t
  ·rw[ln (U:=fun t=>U t/\t≠d) ⟨hu,ht⟩];simp[gE,ln hu,hz]
  ·rw[dK (U:=fun t=>U t/\t≠d) (fun h=>hu h.1),bd _ _ _ _ ht];simp[gE,dK hu]
theorem Fr {z:Nat->SV} (hz:∀ i t,eI i .any (z t)=z t) {U:Nat->Prop} {σ σ':St} {d:Nat} {op:Eu} {p:Prop} (h:wr σ d op=some (p,σ')) (hx:∀ x∈As op,∀ t,x= .t t->¬ U t):
  wr ⟨me z U σ.s,σ.h⟩ d op=some (p,⟨me z (fun t=>U t/\n6 d op≠some t) σ'.s,σ'.h⟩):=by
 have same:∀ s:Nat->SV,me z (fun t=>U t/\(none:Option Nat)≠some t) s=me z U s:=fun s=>by congr 1;funext t;simp
 have one:∀ s:Nat->SV,me z (fun t=>U t/\(some d:Option Nat)≠some t) s=me z (fun t=>U t/\t≠d) s:=fun s=>by
  congr 1;funext t;simp only[ne_eq,JN,eq_comm]
 cases op with
 |boxM x=>
  have h1:=iZ (z:=z) (s:=σ.s) (hx x (by simp[As]))
  simp only[wr,n6,h1,one] at h⊢
  split at h
  ·simp only[JN,JQ] at h
   obtain⟨rfl,rfl⟩:=h
   simp only[St.swap,go hz]
  ·cases h
 |st n x y=>
  have h1:=iZ (z:=z) (s:=σ.s) (hx x (by simp[As]))
  have h2:=iZ (z:=z) (s:=σ.s) (hx y (by simp[As]))
  simp only[wr,n6,h1,h2,same] at h⊢
  split at h
  ·split at h
   ·rename_i h3 h4
    simp only[JN,JQ] at h
    obtain⟨rfl,rfl⟩:=h
    simp only
   ·cases h
  ·split at h
   ·split at h
    ·rename_i h5
     simp only[JN,JQ] at h
     obtain⟨rfl,rfl⟩:=h
     simp only
    ·cases h
   ·cases h
  ·cases h
 |app e sz x y=>
  have h1:=iZ (z:=z) (s:=σ.s) (hx x (by simp[As]))
  have h2:=iZ (z:=z) (s:=σ.s) (hx y (by simp[As]))
  simp only[wr,n6,h1,h2,one] at h⊢
  split at h
  ·split at h
   ·simp only[JN,JQ] at h
    obtain⟨rfl,rfl⟩:=h
    simp only[bS,St.swap,go hz]
   ·cases h
  ·simp only[JN,JQ] at h
   obtain⟨rfl,rfl⟩:=h
   simp only[bS,St.swap,go hz]
  ·simp only[JN,JQ] at h
   obtain⟨rfl,rfl⟩:=h
   simp only[bS,St.swap,go hz]
  ·cases h
 |appS e x y=>
  have h1:=iZ (z:=z) (s:=σ.s) (hx x (by simp[As]))
  have h2:=iZ (z:=z) (s:=σ.s) (hx y (by simp[As]))
  simp only[wr,n6,h1,h2,one] at h⊢
  split at h
  ·split at h
   ·simp only[JN,JQ] at h
    obtain⟨rfl,rfl⟩:=h
    simp only[bS,St.swap,go hz]
   ·cases h
  ·simp only[JN,JQ] at h
   obtain⟨rfl,rfl⟩:=h
   simp only[bS,St.swap,go hz]
  ·cases h
 |bldM T e=>
  simp only[wr,n6,one,JN,JQ] at h⊢
  obtain⟨rfl,rfl⟩:=h
  simp only[St.swap,go hz,and_self]
 |mkmap kk=>
  simp only[wr,n6,one,JN,JQ] at h⊢
  obtain⟨rfl,rfl⟩:=h
  simp only[St.swap,go hz,and_self]
 |mset kk m k v=>
  have h1:=iZ (z:=z) (s:=σ.s) (hx m (by simp[As]))
  have h2:=iZ (z:=z) (s:=σ.s) (hx k (by simp[As]))
  have h3:=iZ (z:=z) (s:=σ.s) (hx v (by simp[As]))
  simp only[wr,n6,h1,h2,h3,same] at h⊢
  split at h
  ·split at h
   ·simp only[JN,JQ] at h
    obtain⟨rfl,rfl⟩:=h
    simp only
   ·cases h
  ·cases h
 |mkS e sz z' x y=>
  have h1:ev (me z U σ.s) x=ev σ.s x:=iZ (hx x (by simp[As]))
  have h2:ev (me z U σ.s) y=ev σ.s y:=iZ (hx y (by simp[As]))
  simp only[wr,n6,h1,h2,one] at h⊢
  split at h
  ·simp only[JN,JQ] at h
   obtain⟨rfl,rfl⟩:=h
   simp only[bS,St.swap,go hz]
  ·cases h
 |slM e sz xs=>
  have h1:xs.map (ev (me z U σ.s))=xs.map (ev σ.s):=K_ fun x hx'=>iZ (hx x (by simpa only[As] using hx'))
  simp only[wr,n6,h1,one] at h⊢
  split at h
  ·simp only[JN,JQ] at h
   obtain⟨rfl,rfl⟩:=h
   simp only[bS,St.swap,go hz]
  ·cases h
 |trunc sz x hi=>
  have h1:=iZ (z:=z) (s:=σ.s) (hx x (by simp[As]))
  have h2:=iZ (z:=z) (s:=σ.s) (hx hi (by simp[As]))
  simp only[wr,n6,h1,h2,one] at h⊢
  split at h
  ·split at h
   ·simp only[JN,JQ] at h
    obtain⟨rfl,rfl⟩:=h
    simp only[bS,St.swap,go hz]
   ·cases h
  ·cases h
theorem Bh {z:Nat->SV} (hz:∀ i t,eI i .any (z t)=z t) {U:Nat->Prop} {σ σ':St} {d:Nat} {L:List (Nat×Ch)} {res:SV} (h:takes σ L (some d) res=some σ'):takes ⟨me z U σ.s,σ.h⟩ L (some d) res=some ⟨me z (fun t=>U t/\(some d:Option Nat)≠some t) σ'.s,σ'.h⟩:=by
 have one:∀ s:Nat->SV,me z (fun t=>U t/\(some d:Option Nat)≠some t) s=me z (fun t=>U t/\t≠d) s:=fun s=>by
  congr 1;funext t;simp only[ne_eq,JN,eq_comm]
 have plainE:∀ (s:Nat->SV) (v:SV),aI (me z U s) d v=me z (fun t=>U t/\t≠d) (aI s d v):=fun s v=>by
  funext t
  by_cases ht:t=d
  ·subst ht;rw[am,dK oS,am]
  ·rw[bd _ _ _ _ ht]
   by_cases hu:U t
   ·rw[ln (U:=fun t=>U t/\t≠d) ⟨hu,ht⟩,ln hu]
   ·rw[dK (U:=fun t=>U t/\t≠d) (fun h=>hu h.1),bd _ _ _ _ ht,dK hu]
 unfold takes at h⊢
 simp only at h⊢
 split at h
 ·rename_i h0
  simp only[JN] at h;subst h
  rw[Ll h0,one,plainE]
 ·rename_i h0
  rw[if_neg h0]
  split at h
  ·rename_i h1
   rw[Ll h1]
   split at h
   ·rename_i m v ho
    split at h
    ·rename_i ch mk hoc
     simp only[JN] at h;subst h
     simp only[one,go hz]
    ·cases h
   ·cases h
  ·cases h
section
variable {σ:St}
theorem xL {σ':St} (hs:∀ i,σ'.s i=σ.s i\/σ'.s i= .d .any) (hh:∀ i,σ'.h i=σ.h i\/σ'.h i= .dead):hY σ σ':=fun c κ φ a w hr=>by
 classical
 refine⟨κ,fun i=>if σ'.h i=σ.h i then φ i else[], ?_⟩
 have hsub:∀ i b,b∈(if σ'.h i=σ.h i then φ i else[])->b∈φ i:=fun i b hb=>by
  split at hb
  ·exact hb
  ·simp at hb
 have hext:kc w (own c φ) w (own c fun i=>if σ'.h i=σ.h i then φ i else[]):=kc.shrink fun b hb=>by
  rcases hb with hb|⟨i,hb⟩
  ·exact .inl hb
  ·exact .inr ⟨i,hsub i b hb⟩
 have hslot:∀ i v,ae w (own c φ) κ (σ.s i) v->ae w (own c fun i=>if σ'.h i=σ.h i then φ i else[]) κ (σ'.s i) v:=fun i v hv=>by
  rcases hs i with h|h
  ·rw[h];exact hv.ext hext
  ·rw[h];simp only[ae];unfold aD;trivial
 refine⟨hr.chg,hr.size,hr.m0,hr.ntmps,hr.defers,hr.kok,fun i hi=>hslot i _ (hr.slots i hi),fun i v hv=>hslot _ v (hr.ghost i v hv),fun i=> ?_,fun i b hb=>hr.mine i b (hsub i b hb),fun i=> ?_,fun i j b hij hi hj=>hr.sep i j b hij (hsub i b hi) (hsub j b hj)⟩
 ·by_cases h:σ'.h i=σ.h i
  ·simp only[h,K4];exact(hr.chunks i).ext hext (fun _ _=>rfl)
  ·rcases hh i with h'|h'
   ·exact absurd h' h
   ·simp only[h,KG];rw[h'];rfl
 ·split
  ·exact hr.nod i
  ·simp
end
def GA (P:Program) (so:SO) (σ σ':St):Prop:=
 match so with
 | .x d op late=>∃ p,wr σ d op=some (p,σ')/\p/\yx σ' late
 | .q d f args late=>∃ fid ins outs res L,ev σ.s f= .d (.fn fid [])/\cr P fid ins res outs/\res.closed=true/\HandL σ.h (args.map (ev σ.s)) ins outs L/\takes σ L (some d) res=some σ'/\yx σ' late
 |so=>∃ d v,hJ so=some d/\YS P σ.h so σ.s v/\σ'=⟨aI σ.s d v,σ.h⟩
theorem xM {P:Program} {so:SO} {σ σ':St} (hx:yl so=false) (h:GA P so σ σ'):∃ d v,hJ so=some d/\YS P σ.h so σ.s v/\σ'=⟨aI σ.s d v,σ.h⟩:=by
 cases so<;>first|exact h|simp[yl] at hx
theorem H5 {P:Program} {K:St->Prop} {so:SO} {σ:St} (hok:Jg so=true) (h:AO P so σ K):∃ σ',GA P so σ σ'/\K σ':=by
 by_cases hx:yl so=true
 ·cases so<;>simp[yl] at hx
  ·rename_i d op late
   simp only[AO] at h
   split at h
   ·rename_i p σ' hw;exact⟨σ',⟨p,hw,h.1,h.2.1⟩,h.2.2⟩
   ·exact h.elim
  ·rename_i d f args late
   obtain⟨fid,ins,outs,res,L,σ',h1,h2,h3,h4,h5,h6,h7⟩:=h
   exact⟨σ',⟨fid,ins,outs,res,L,h1,h2,h3,h4,h5,h6⟩,h7⟩
 ·simp only[Lc] at hx
  simp only[Jg,hx,Kj,Kz] at hok
  obtain⟨d,hd⟩:=hok
  obtain⟨v,hv,hk⟩:=AQ hd h
  refine⟨_, ?_,hk⟩
  cases so<;>first|exact⟨d,v,hd,hv,rfl⟩|simp[yl] at hx
theorem C7 {P:Program} {K:St->Prop}:∀ (sos:List SO) (σ:St),(∀ so∈sos,Jg so=true)->aR P K sos σ->∃ S:Nat->St,S 0=σ/\(∀ (j:Nat) (so:SO),sos[j]?=some so->GA P so (S j) (S (j+1)))/\K (S sos.length)
 |[],σ,_,h=>⟨fun _=>σ,rfl,by simp,h⟩
 |so::sos,σ,hok,h=>by
  simp only[aR] at h
  obtain⟨σ',h1,h2⟩:=H5 (hok so oS) h
  obtain⟨S,h3,h4,h5⟩:=C7 sos σ' (fun s hs=>hok s (by simp[hs])) h2
  refine⟨fun j=>match j with|0=>σ|j+1=>S j,rfl,fun j s hj=> ?_,by simpa using h5⟩
  cases j with
  |zero=>simp at hj;subst hj;simpa[h3] using h1
  |succ j=>exact h4 j s (by simpa using hj)
mutual
theorem Bi (id:Nat):∀ v:SV,(eI id .any v).firm=true->eI id .any v=v
 | .d v,_=>rfl
 | .nils,_=>rfl
 | .lit sz n cs,h=>by
  simp only[eI,SV.firm] at h⊢
  rw[vc id cs h]
 | .agg cs,h=>by
  simp only[eI,SV.firm] at h⊢
  rw[vc id cs h]
 | .tup cs,h=>by simp[eI,SV.firm] at h
 | .ref i off,h=>by
  by_cases hi:i=id
  ·simp[eI,hi,SV.firm] at h
  ·simp[eI,hi]
 | .vec i,h=>by
  by_cases hi:i=id
  ·simp[eI,hi,SV.firm] at h
  ·simp[eI,hi]
 | .vref i a b off,h=>by
  by_cases hi:i=id
  ·simp[eI,hi,SV.firm] at h
  ·simp[eI,hi]
 | .mp i,h=>by
  by_cases hi:i=id
  ·simp[eI,hi,SV.firm] at h
  ·simp[eI,hi]
 | .own m v,_=>rfl
theorem vc (id:Nat):∀ l:List SV,SV.firms (je id .any l)=true->je id .any l=l
 |[],_=>rfl
 |c::cs,h=>by
  simp only[je,SV.firms,JO] at h⊢
  rw[Bi id c h.1,vc id cs h.2]
end
mutual
theorem vd (id:Nat):∀ v:SV,v.firm=true->eI id .any v=v
 | .d v,_=>rfl
 | .nils,_=>rfl
 | .lit sz n cs,h=>by
  simp only[eI,SV.firm] at h⊢
  rw[tp id cs h]
 | .agg cs,h=>by
  simp only[eI,SV.firm] at h⊢
  rw[tp id cs h]
 | .tup cs,h=>by simp[SV.firm] at h
 | .ref i off,h=>by simp[SV.firm] at h
 | .vec i,h=>by simp[SV.firm] at h
 | .vref i a b off,h=>by simp[SV.firm] at h
 | .mp i,h=>by simp[SV.firm] at h
 | .own m v,h=>by simp[SV.firm] at h
theorem tp (id:Nat):∀ l:List SV,SV.firms l=true->je id .any l=l
 |[],_=>rfl
 |c::cs,h=>by
  simp only[SV.firms,JO] at h
  simp only[je]
  rw[vd id c h.1,tp id cs h.2]
end
def om (s:Nat->SV):Nat->SV:=fun t=>if(s t).firm=true then s t else .d .any
theorem D6 (s:Nat->SV) (i t:Nat):eI i .any (om s t)=om s t:=by
 unfold om
 split
 ·rename_i h;exact vd i _ h
 ·rfl
theorem Bj (s:Nat->SV) (t:Nat):om s t= .d .any\/(om s t=s t/\(s t).firm=true):=by
 unfold om
 split
 ·rename_i h;exact .inr ⟨rfl,h⟩
 ·exact .inl rfl
theorem Ft (s:Nat->SV) (U:Nat->Prop) (t:Nat):me (om s) U s t=s t\/me (om s) U s t= .d .any:=by
 by_cases h:U t
 ·rw[ln h]
  rcases Bj s t with h|h
  ·exact .inr h
  ·exact .inl h.1
 ·exact .inl (dK h)
def qY:qK->Bool
 | .sslc _ _ _=>true
 |_=>false
def Fu:SO->Bool
 | .r _ op=>qY op
 |_=>false
def Jo:SO->Bool
 | .r _ _=>true
 |_=>false
def y_ (n:Nat):List (Nat×Nat×qK)->Bool
 |[]=>false
 |(_,_,.cl _ [n'])::l=>n'==n||y_ n l
 |_::l=>y_ n l
def xN (op:qK) (l:List (Nat×Nat×qK)):Bool:=
 match op with
 | .mv (.t n)=>y_ n l
 |_=>false
theorem Bk {s:Nat->SV} {n:Nat} {a:Option Int} (h:Ar s (some (.t n))=some a):(s n).firm=true:=by
 simp only[Ar,ev] at h
 split at h
 ·rename_i h1;rw[h1];rfl
 ·cases h
theorem C8 {h:Nat->Ch} {s:Nat->SV} {op:qK} {p:Prop} {v:SV} (hr:rd h s op=some (p,v)) (hf:qY op=true) {n:Nat} (hn: .t n∈o7 op):(s n).firm=true:=by
 cases op<;>simp only[qY,Kg] at hf
 rename_i x lo hi
 simp only[rd] at hr
 split at hr
 ·rename_i l a b h1 h2 h3
  simp only[o7,J2,Kc,Option.mem_toList] at hn
  rcases hn with rfl|rfl|rfl
  ·have:s n= .d (.str l):=h1
   rw[this];rfl
  ·exact Bk h2
  ·exact Bk h3
 ·cases hr
mutual
theorem za:∀ v:SV,v.firm=true->∃ d,v.toDV=some d
 | .d v,_=>⟨v,rfl⟩
 | .nils,_=>⟨_,rfl⟩
 | .lit sz n cs,h=>by
  obtain⟨ds,hd⟩:=qZ cs (by simpa only[SV.firm] using h)
  exact⟨_,by simp only[SV.toDV,hd];rfl⟩
 | .agg cs,h=>by
  obtain⟨ds,hd⟩:=qZ cs (by simpa only[SV.firm] using h)
  exact⟨_,by simp only[SV.toDV,hd];rfl⟩
 | .tup cs,h=>by simp[SV.firm] at h
 | .ref i off,h=>by simp[SV.firm] at h
 | .vec i,h=>by simp[SV.firm] at h
 | .vref i a b off,h=>by simp[SV.firm] at h
 | .mp i,h=>by simp[SV.firm] at h
 | .own m v,h=>by simp[SV.firm] at h
theorem qZ:∀ l:List SV,SV.firms l=true->∃ ds,SV.toDVs l=some ds
 |[],_=>⟨[],rfl⟩
 |c::cs,h=>by
  simp only[SV.firms,JO] at h
  obtain⟨d,hd⟩:=za c h.1
  obtain⟨ds,hds⟩:=qZ cs h.2
  exact⟨d::ds,by simp only[SV.toDVs,hd,hds]⟩
end
theorem we {s:Nat->SV}:∀ {l:List Nat},kh s l=true->∀ n∈l,(s n).firm=true
 |[],_,n,hn=>by cases hn
 |m::l,h,n,hn=>by
  simp only[kh,JO] at h
  rcases J2.1 hn with rfl|hn
  ·exact h.1
  ·exact we h.2 n hn
theorem Fv {σ σ':St} {d:Nat} {op:Eu} {p:Prop} (h:wr σ d op=some (p,σ')) {n:Nat} (hn:n6 d op≠some n):σ'.s n=σ.s n\/∃ id,σ'.s n=eI id .any (σ.s n):=by
 have gr:∀ (id e sz:Nat) (rows:List (List SV)),d≠n->(bS σ d id e sz rows).s n=eI id .any (σ.s n):=fun id e sz rows hd=>by
  simp only[bS,aI,gE];rw[if_neg (Ne.symm hd)]
 cases op with
 |boxM x=>
  have hd:d≠n:=fun e=>hn (by simp[n6,e])
  simp only[wr] at h
  split at h
  ·simp only[JN,JQ] at h
   obtain⟨rfl,rfl⟩:=h
   exact .inr ⟨d,by simp only[aI,gE];rw[if_neg (Ne.symm hd)]⟩
  ·cases h
 |st k x y=>
  simp only[wr] at h
  split at h
  ·split at h
   ·simp only[JN,JQ] at h
    obtain⟨rfl,rfl⟩:=h
    exact .inl rfl
   ·cases h
  ·split at h
   ·split at h
    ·simp only[JN,JQ] at h
     obtain⟨rfl,rfl⟩:=h
     exact .inl rfl
    ·cases h
   ·cases h
  ·cases h
 |app e sz x y=>
  have hd:d≠n:=fun e=>hn (by simp[n6,e])
  simp only[wr] at h
  split at h
  ·split at h
   ·simp only[JN,JQ] at h
    obtain⟨rfl,rfl⟩:=h
    exact .inr ⟨_,gr _ _ _ _ hd⟩
   ·cases h
  ·simp only[JN,JQ] at h
   obtain⟨rfl,rfl⟩:=h
   exact .inr ⟨_,gr _ _ _ _ hd⟩
  ·simp only[JN,JQ] at h
   obtain⟨rfl,rfl⟩:=h
   exact .inr ⟨_,gr _ _ _ _ hd⟩
  ·cases h
 |appS e x y=>
  have hd:d≠n:=fun e=>hn (by simp[n6,e])
  simp only[wr] at h
  split at h
  ·split at h
   ·simp only[JN,JQ] at h
    obtain⟨rfl,rfl⟩:=h
    exact .inr ⟨_,gr _ _ _ _ hd⟩
   ·cases h
  ·simp only[JN,JQ] at h
   obtain⟨rfl,rfl⟩:=h
   exact .inr ⟨_,gr _ _ _ _ hd⟩
  ·cases h
 |bldM T e'=>
  have hd:d≠n:=fun e=>hn (by simp[n6,e])
  simp only[wr,JN,JQ] at h
  obtain⟨rfl,rfl⟩:=h
  exact .inr ⟨d,by simp only[aI,gE];rw[if_neg (Ne.symm hd)]⟩
 |mkmap kk=>
  have hd:d≠n:=fun e=>hn (by simp[n6,e])
  simp only[wr,JN,JQ] at h
  obtain⟨rfl,rfl⟩:=h
  exact .inr ⟨d,by simp only[aI,gE];rw[if_neg (Ne.symm hd)]⟩
 |mset kk m k v=>
  simp only[wr] at h
  split at h
  ·split at h
   ·simp only[JN,JQ] at h
    obtain⟨rfl,rfl⟩:=h
    exact .inl rfl
   ·cases h
  ·cases h
 |mkS e sz z x y=>
  have hd:d≠n:=fun e=>hn (by simp[n6,e])
  simp only[wr] at h
  split at h
  ·simp only[JN,JQ] at h
   obtain⟨rfl,rfl⟩:=h
   exact .inr ⟨_,gr _ _ _ _ hd⟩
  ·cases h
 |slM e sz xs=>
  have hd:d≠n:=fun e=>hn (by simp[n6,e])
  simp only[wr] at h
  split at h
  ·simp only[JN,JQ] at h
   obtain⟨rfl,rfl⟩:=h
   exact .inr ⟨_,gr _ _ _ _ hd⟩
  ·cases h
 |trunc sz x hi=>
  have hd:d≠n:=fun e=>hn (by simp[n6,e])
  simp only[wr] at h
  split at h
  ·split at h
   ·simp only[JN,JQ] at h
    obtain⟨rfl,rfl⟩:=h
    exact .inr ⟨_,gr _ _ _ _ hd⟩
   ·cases h
  ·cases h
theorem vf {P:Program} {so:SO} {σ σ':St} (h:GA P so σ σ') {n:Nat} (hn:bU so≠some n):σ'.s n=σ.s n\/∃ id,σ'.s n=eI id .any (σ.s n):=by
 by_cases hx:yl so=true
 ·cases so<;>simp[yl] at hx
  ·obtain⟨p,hw,_,_⟩:=h
   exact Fv hw hn
  ·rename_i d f args late
   obtain⟨fid,ins,outs,res,L,_,_,_,_,ht,_⟩:=h
   have hd:d≠n:=fun e=>hn (by simp[bU,e])
   simp only[takes] at ht
   split at ht
   ·simp only[JN] at ht;subst ht
    exact .inl (by simp only[aI];rw[if_neg (Ne.symm hd)])
   ·split at ht
    ·split at ht
     ·split at ht
      ·simp only[JN] at ht;subst ht
       exact .inr ⟨d,by simp only[aI,gE];rw[if_neg (Ne.symm hd)]⟩
      ·cases ht
     ·cases ht
    ·cases ht
 ·simp only[Lc] at hx
  obtain⟨d,v,hd,_,rfl⟩:=xM hx h
  have hdE:bU so=some d:=by cases so<;>first|exact hd|simp[yl] at hx
  have:n≠d:=fun e=>hn (by rw[hdE,e])
  exact .inl (by simp only[aI];rw[if_neg this])
theorem xO {P:Program} {sos:List SO} {S:Nat->St} (hS:∀ (j:Nat) (so:SO),sos[j]?=some so->GA P so (S j) (S (j+1))) {a n:Nat}:∀ b,a<=b->b<=sos.length->(∀ i,a<=i->i<b->(sos.map bU)[i]?≠some (some n))->((S b).s n).firm=true->(S a).s n=(S b).s n:=by
 intro b hab hb hn hf
 induction b with
 |zero=>
      obtain rfl:a=0:=by omega
      rfl
 |succ b ih=>
  by_cases hab':a=b+1
  ·rw[hab']
  obtain⟨so,hso⟩:∃ so,sos[b]?=some so:=⟨_,J0 oM⟩
  have hd:bU so≠some n:=fun e=>hn b oM oM (by simp[hso,e])
  have h1:(S (b+1)).s n=(S b).s n:=by
   rcases vf (hS b so hso) hd with h|⟨id,h⟩
   ·exact h
   ·rw[h] at hf⊢;exact Bi id _ hf
  rw[h1] at hf⊢
  exact ih oM oM (fun i hi hi'=>hn i hi oM) hf
theorem GB {P:Program} {sos:List SO} {S:Nat->St} (hS:∀ (j:Nat) (so:SO),sos[j]?=some so->GA P so (S j) (S (j+1))) {a n:Nat} {v:DV} (hv:(S a).s n= .d v):∀ b,a<=b->b<=sos.length->(∀ i,a<=i->i<b->(sos.map bU)[i]?≠some (some n))->(S b).s n= .d v:=by
 intro b hab hb hn
 induction b with
 |zero=>
      obtain rfl:a=0:=by omega
      exact hv
 |succ b ih=>
  by_cases hab':a=b+1
  ·rw[<-hab'];exact hv
  obtain⟨so,hso⟩:∃ so,sos[b]?=some so:=⟨_,J0 oM⟩
  have hd:bU so≠some n:=fun e=>hn b oM oM (by simp[hso,e])
  have h0:=ih oM oM (fun i hi hi'=>hn i hi oM)
  rcases vf (hS b so hso) hd with h|⟨id,h⟩
  ·rw[h,h0]
  ·rw[h,h0];rfl
theorem Fw {P:Program} {sos:List SO} {S:Nat->St} (hS:∀ (j:Nat) (so:SO),sos[j]?=some so->GA P so (S j) (S (j+1))) {a n:Nat} (hv:((S a).s n).firm=true):∀ b,a<=b->b<=sos.length->(∀ i,a<=i->i<b->(sos.map bU)[i]?≠some (some n))->(S b).s n=(S a).s n:=by
 intro b hab hb hn
 induction b with
 |zero=>
      obtain rfl:a=0:=by omega
      rfl
 |succ b ih=>
  by_cases hab':a=b+1
  ·rw[<-hab']
  obtain⟨so,hso⟩:∃ so,sos[b]?=some so:=⟨_,J0 oM⟩
  have hd:bU so≠some n:=fun e=>hn b oM oM (by simp[hso,e])
  have h0:=ih oM oM (fun i hi hi'=>hn i hi oM)
  rcases vf (hS b so hso) hd with h|⟨id,h⟩
  ·rw[h,h0]
  ·rw[h,h0];exact vd id _ hv
def xP (sos:List SO) (a:Nat):List (Nat×Nat×qK)->Bool
 |[]=>false
 |(a',d,.cl t ts)::l=>(a'==a&&t==d&&(match sos[a]? with
  |some (.c d' (.f _) args)=>d'==d&&args.all (fun x=>match x with| .t n=>ts.contains n| .c v=>v.toDV.isSome| .f _=>false)
  |_=>false))||xP sos a l
 |_::l=>xP sos a l
def fX (sos:List SO) (i:Nat):Bool:=match sos[i]? with|some so=>yl so|none=>false
def qh (kp fo fw:Bool) (all:Array Oper) (sos:List SO) (dl:List (Option Nat)) (j:Nat) (o:Oper) (xs:List SX):Bool:=
 (CT xs).all fun t=>(List.range dl.length).all fun b=>dl[b]? !=some (some t)||(decide (b<j)&&o.after.any (fun e=>Region.binds .any e&&e.on==b))||
  ((List.range b).any fun p=>decide (j<=p)&&fX sos p&&(p==j||back all j p [p]))||
  (kp&&fo&&decide (j<b)&&back all j b [b]&&((List.range sos.length).all fun p=> !fX sos p||decide (p<b)||back all j p [p])&&(fw||(List.range b).any fun p=>decide (j<=p)&&fX sos p))
def xQ (kp:Bool) (l0:List (Nat×Nat×qK)) (P:Program) (N:Nat) (all:Array Oper) (sos:List SO) (dl:List (Option Nat)) (a:Nat):List (Nat×Nat×qK)->Bool
 |[]=>false
 |(a',d,op)::l=>(a'==a&&dl[a]?==some (some d)&&(match all[a]? with
  |some o=>(match op with
   | .gd t want op'=>kr P N all o (.g t want (some d) (.r d op'))&&qh kp (qY op'||xN op' l0) true all sos dl a o (.t t::o7 op')
   |op=>o.guard==none&&dc P N o (.r d op)&&qh kp (qY op||xN op l0) true all sos dl a o (o7 op))
  |none=>false))||xQ kp l0 P N all sos dl a l
def vg:SO->List (Nat×Nat×qK)
 | .x _ _ l=>l
 | .q _ _ _ l=>l
 |_=>[]
def xR (kp:Bool) (P:Program) (N:Nat) (all:Array Oper) (sos:List SO) (dl:List (Option Nat)) (j:Nat) (o:Oper) (so:SO):Bool:=
 Jg so&&o.after.all (fun e=> !Region.binds .any e||decide (e.on<j))&&qh kp (Jo so) (Fu so) all sos dl j o (JM so)&&
 (List.range dl.length).all (fun b=>b==j||dl[b]? !=dl[j]?||dl[j]?==some none)&&
 (List.range j).all (fun p=>match sos[p]? with
  |some sp=>if yl sp then back all p j [j] else(!yl so||back all p j [j]||xQ kp (vg so) P N all sos dl p (vg so)||xP sos p (vg so))
  |none=>false)
def wv (kp:Bool) (P:Program) (N:Nat) (all:Array Oper) (sos:List SO) (dl:List (Option Nat)):Nat->List Oper->List SO->Bool
 |_,[],[]=>true
 |j,o::ops,so::l=>xR kp P N all sos dl j o so&&wv kp P N all sos dl (j+1) ops l
 |_,_,_=>false
abbrev IR:=wv false
theorem xS {kp:Bool} {P:Program} {N:Nat} {all:Array Oper} {sos:List SO} {dl:List (Option Nat)}:∀ {ops:List Oper} {l:List SO} {k:Nat},wv kp P N all sos dl k ops l=true->∀ (j:Nat) (o:Oper) (so:SO),ops[j]?=some o->l[j]?=some so->xR kp P N all sos dl (k+j) o so=true
 |[],[],k,h,j,o,so,ho,hs=>by simp at ho
 |o'::ops,so'::l,k,h,j,o,so,ho,hs=>by
  simp only[wv,JO] at h
  cases j with
  |zero=>simp at ho hs;subst ho hs;exact h.1
  |succ j=>
   have:=xS h.2 j o so (by simpa using ho) (by simpa using hs)
   rw[show k+(j+1)=k+1+j by omega];exact this
 |[],_::_,k,h,_,_,_,_,_=>by simp[wv] at h
 |_::_,[],k,h,_,_,_,_,_=>by simp[wv] at h
theorem xT {kp fo fw:Bool} {all:Array Oper} {sos:List SO} {dl:List (Option Nat)} {j:Nat} {o:Oper} {xs:List SX} (h:qh kp fo fw all sos dl j o xs=true) {t:Nat} (ht: .t t∈xs) {b:Nat} (hb:dl[b]?=some (some t)):
  (b<j/\∃ e∈o.after,Region.binds .any e=true/\e.on=b)\/(∃ p,p<b/\j<=p/\fX sos p=true/\(p=j\/back all j p [p]=true))\/
   (kp=true/\fo=true/\j<b/\back all j b [b]=true/\(fw=true\/∃ p,j<=p/\p<b/\fX sos p=true)/\∀ p,p<sos.length->fX sos p=true->p<b\/back all j p [p]=true):=by
 have h1:=Ke.1 h t (List.mem_filterMap.2 ⟨.t t,ht,rfl⟩)
 have h2:=Ke.1 h1 b (KO.2 (JY.1 hb).1)
 simp only[hb,bne_self_eq_false,Kj,J_,JO,JS] at h2
 rcases h2 with(h2|h2)|h2
 ·obtain⟨e,he,hb'⟩:=Array.any_eq_true'.1 h2.2
  simp only[JO,JV] at hb'
  exact .inl ⟨h2.1,e,he,hb'.1,hb'.2⟩
 ·obtain⟨p,hp,hp'⟩:=Ld.1 h2
  simp only[JO,J_,JS,JV] at hp'
  exact .inr (.inl ⟨p,KO.1 hp,hp'.1.1,hp'.1.2,hp'.2⟩)
 ·obtain⟨⟨⟨⟨⟨k1,k2⟩,k3⟩,k4⟩,k5⟩,k6⟩:=h2
  refine .inr (.inr ⟨k1,k2,k3,k4, ?_,fun p hp hx=> ?_⟩)
  ·rcases k6 with k6|k6
   ·exact .inl k6
   ·obtain⟨p,hp,hp'⟩:=Ld.1 k6
    simp only[JO,JS] at hp'
    exact .inr ⟨p,hp'.1,KO.1 hp,hp'.2⟩
  have:=Ke.1 k5 p (KO.2 hp)
  simpa[hx] using this
theorem tq {σ:St} {n:Nat}:∀ {l:List (Nat×Nat×qK)},y_ n l=true->yx σ l->(σ.s n).firm=true
 |[],h,_=>by simp[y_] at h
 |(a,d,op)::l,h,hr=>by
  simp only[yx] at hr
  unfold y_ at h
  split at h
  ·cases h
  ·rename_i heq
   simp only[Km,JQ] at heq
   obtain⟨⟨rfl,rfl,rfl⟩,rfl⟩:=heq
   simp only[J_,JV] at h
   rcases h with rfl|h
   ·have h0:=hr.1
    simp only[HU,rd] at h0
    split at h0
    ·rename_i heq2
     split at heq2
     ·rename_i hfa;simpa[kh] using hfa
     ·cases heq2
    ·exact h0.elim
   ·exact tq h hr.2
  ·rename_i heq
   simp only[Km] at heq
   obtain⟨rfl,rfl⟩:=heq
   exact tq h hr.2
theorem Cp {σ:St} {op:qK} {l:List (Nat×Nat×qK)} (h:xN op l=true) (hr:yx σ l) {n:Nat} (hn: .t n∈o7 op):(σ.s n).firm=true:=by
 unfold xN at h
 split at h
 ·simp only[o7,K1,SX.t.injEq] at hn
  subst hn
  exact tq h hr
 ·cases h
theorem GC {a b:Bool} (h:¬ a=b):a= !b:=by cases a<;>cases b<;>first|rfl|exact absurd rfl h
theorem wg {kp:Bool} {l0:List (Nat×Nat×qK)} {P:Program} {N:Nat} {all:Array Oper} {sos:List SO} {dl:List (Option Nat)} {a:Nat} {σ:St}:∀ {l:List (Nat×Nat×qK)},xQ kp l0 P N all sos dl a l=true->yx σ l->
  ∃ d op o,dl[a]?=some (some d)/\all[a]?=some o/\
   ((o.guard=none/\dc P N o (.r d op)=true/\qh kp (qY op||xN op l0) true all sos dl a o (o7 op)=true/\∃ p,rd σ.h σ.s op=some (p,σ.s d)/\p)\/
    (∃ t want,kr P N all o (.g t want (some d) (.r d op))=true/\qh kp (qY op||xN op l0) true all sos dl a o (.t t::o7 op)=true/\∃ p,HU σ.h σ.s (.gd t want op)=some (p,σ.s d)/\p))
 |[],h,_=>by simp[xQ] at h
 |(a',d,op)::l,h,hr=>by
  simp only[xQ,J_,JO,JV] at h
  simp only[yx] at hr
  rcases h with⟨⟨rfl,h1⟩,h2⟩|h
  ·split at h2
   ·rename_i o ho
    obtain⟨hr1,_⟩:=hr
    split at hr1
    ·rename_i p v hrd
     obtain⟨hp,rfl⟩:=hr1
     split at h2
     ·rename_i t want op'
      simp only[JO] at h2
      exact⟨d,op',o,h1,ho,.inr ⟨t,want,h2.1,h2.2,p,hrd,hp⟩⟩
     ·rename_i hng
      simp only[JO,JV] at h2
      have hrd':rd σ.h σ.s op=some (p,σ.s d):=by
       cases op<;>first|exact hrd|exact absurd rfl (hng _ _ _)
      exact⟨d,op,o,h1,ho,.inl ⟨h2.1.1,h2.1.2,h2.2,p,hrd',hp⟩⟩
    ·exact hr1.elim
   ·cases h2
  ·exact wg h hr.2
theorem tr {sos:List SO} {a:Nat} {σ:St}:∀ {l:List (Nat×Nat×qK)},xP sos a l=true->yx σ l->∃ d fid args ts,sos[a]?=some (.c d (.f fid) args)/\(∀ x∈args,(∃ n,x= .t n/\n∈ts)\/∃ v,x= .c v/\v.toDV.isSome=true)/\kh σ.s ts=true
 |[],h,_=>by simp[xP] at h
 |(a',d,op)::l,h,hr=>by
  simp only[yx] at hr
  cases op with
  |cl t ts=>
   simp only[xP,J_,JO,JV] at h
   rcases h with⟨_,h⟩|h
   ·split at h
    ·rename_i d' fid args hs
     simp only[JO,JV,Ke] at h
     refine⟨d',fid,args,ts,hs,fun x hx=> ?_, ?_⟩
     ·have:=h.2 x hx
      cases x with
      |t n=>exact .inl ⟨n,rfl,by simpa using this⟩
      |c v=>exact .inr ⟨v,rfl,this⟩
      |f i=>cases this
     ·have h0:=hr.1
      simp only[HU,rd] at h0
      by_cases hf:kh σ.s ts=true
      ·exact hf
      ·simp[hf] at h0
    ·cases h
   ·exact tr h hr.2
  |_=>exact tr (by simpa only[xP] using h) hr.2
theorem Hw (f:Nat->Bool) (n:Nat):∀ k,k<=n->∃ M,k<=M/\M<=n/\(∀ i,k<=i->i<M->f i=false)/\(M=n\/(M<n/\f M=true)):=by
 intro k hk
 obtain⟨m,hm⟩:∃ m,m=n - k:=⟨_,rfl⟩
 induction m generalizing k with
 |zero=>exact⟨k,JW _,hk,fun i h1 h2=>by omega,.inl oM⟩
 |succ m ih=>
  by_cases hf:f k=true
  ·exact⟨k,JW _,hk,fun i h1 h2=>by omega,.inr ⟨by omega,hf⟩⟩
  ·obtain⟨M,h1,h2,h3,h4⟩:=ih (k+1) oM oM
   refine⟨M,by omega,h2,fun i h5 h6=> ?_,h4⟩
   by_cases hik:i=k
   ·subst hik;simpa using hf
   ·exact h3 i oM h6
theorem IU (f:Nat->Bool) (k:Nat):∀ M,k<=M->(∀ i,k<=i->i<M->f i=false)\/∃ p,k<=p/\p<M/\f p=true/\∀ i,p<i->i<M->f i=false:=by
 intro M hM
 induction M with
 |zero=>exact .inl fun i h1 h2=>by omega
 |succ M ih=>
  by_cases hk:k=M+1
  ·exact .inl fun i h1 h2=>by omega
  ·by_cases hf:f M=true
   ·exact .inr ⟨M,by omega,by omega,hf,fun i h1 h2=>by omega⟩
   ·rcases ih oM with h|⟨p,h1,h2,h3,h4⟩
    ·refine .inl fun i h1 h2=> ?_
     by_cases hi:i=M
     ·subst hi;simpa using hf
     ·exact h i h1 oM
    ·refine .inr ⟨p,h1,by omega,h3,fun i h5 h6=> ?_⟩
     by_cases hi:i=M
     ·subst hi;simpa using hf
     ·exact h4 i h5 oM
section
variable {P:Program} {c:Cx}
theorem zb {sos:List SO} {S:Nat->St} (hS:∀ (j:Nat) (so:SO),sos[j]?=some so->GA P so (S j) (S (j+1))) {a:Nat}:∀ b,a<=b->b<=sos.length->(∀ i,a<=i->i<b->fX sos i=false)->
  (S b).h=(S a).h/\∀ t,(∀ i,a<=i->i<b->(sos.map bU)[i]?≠some (some t))->(S b).s t=(S a).s t:=by
 intro b hab hb hf
 induction b with
 |zero=>
      obtain rfl:a=0:=by omega
      exact⟨rfl,fun _ _=>rfl⟩
 |succ b ih=>
  by_cases hab':a=b+1
  ·subst hab';exact⟨rfl,fun _ _=>rfl⟩
  obtain⟨h1,h2⟩:=ih oM oM (fun i hi hi'=>hf i hi oM)
  obtain⟨so,hso⟩:∃ so,sos[b]?=some so:=⟨_,J0 oM⟩
  have hx:yl so=false:=by have:=hf b oM oM;simpa[fX,hso] using this
  obtain⟨d,v,hd,_,he⟩:=xM hx (hS b so hso)
  have hdE:bU so=some d:=by cases so<;>first|exact hd|simp[yl] at hx
  rw[he]
  refine⟨h1,fun t ht=> ?_⟩
  have hne:t≠d:=fun e=>by
   subst e
   exact ht b oM oM (by simp[hso,hdE])
  simp only[bd _ _ _ _ hne]
  exact h2 t fun i hi hi'=>ht i hi oM
def cm (dl:List (Option Nat)) (M:Nat) (L:Nat->Bool) (t:Nat):Prop:=∃ i:Nat,i<M/\dl[i]?=some (some t)/\L i=false
theorem Cq {ops:Array Oper} {sos:List SO} {S:Nat->St} {K:St->Prop} {Q:Exit->Act->World->Prop}
  (hQ:∀ σ' κ' φ' a' w',bT c σ' κ' φ' a' w'->K σ'->Q .normal a' w') (hm:bg P c.N ops ops.toList sos=true) {kp:Bool} {z:Nat->SV} (hz:∀ i t,eI i .any (z t)=z t) (hzk:kp=true->∀ t,((S 0).s t).firm=true->z t=(S 0).s t) (hzw:∀ t,z t= .d .any\/(z t=(S 0).s t/\((S 0).s t).firm=true)) (hord:wv kp P c.N ops sos (sos.map bU) 0 ops.toList sos=true)
  (hS:∀ (j:Nat) (so:SO),sos[j]?=some so->GA P so (S j) (S (j+1))) (hK:K (S sos.length)):
  ∀ (fuel:Nat) (listed:Array Bool) (M:Nat) (κ:Nat->Value) (φ:Nat->List Nat) (a:Act) (w:World),listed.size=ops.size->(yV ops.size listed).length=fuel->
   (∀ (i:Nat) o,listed.getD i false=true->ops[i]?=some o->∀ e∈o.after,Region.binds .any e=true->listed.getD e.on false=true)->
   M<=sos.length->(∀ i,i<M->fX sos i=true->listed.getD i false=true)->(M=sos.length\/(M<sos.length/\fX sos M=true))->(∀ i,M<=i->listed.getD i false=false)->
   bT c ⟨me z (cm (sos.map bU) M (fun i=>listed.getD i false)) (S M).s,(S M).h⟩ κ φ a w->
   wpAny P .any ops Q fuel listed a w:=by
 obtain⟨hml,hmo⟩:=ko hm
 have hlen:sos.length=ops.size:=by simp at hml;omega
 have hget:∀ j,j<ops.size->∃ so,sos[j]?=some so:=fun j hj=>⟨_,J0 oM⟩
 have hdl:∀ (j:Nat) so,sos[j]?=some so->(sos.map bU)[j]?=some (bU so):=fun j so h=>by simp[h]
 have hord1:∀ (j:Nat) o so,ops[j]?=some o->sos[j]?=some so->xR kp P c.N ops sos (sos.map bU) j o so=true:=fun j o so ho hso=>by
  have:=xS hord j o so (by simpa using ho) hso
  simpa using this
 have hedges:∀ (j:Nat) o so,ops[j]?=some o->sos[j]?=some so->∀ e∈o.after,Region.binds .any e=true->e.on<j:=fun j o so ho hso e he hb=>by
  have:=hord1 j o so ho hso
  simp only[xR,JO] at this
  have:=Array.all_eq_true_iff_forall_mem.1 this.1.1.1.2 e he
  simpa[hb] using this
 have huniq:∀ (j b:Nat) t,(sos.map bU)[j]?=some (some t)->(sos.map bU)[b]?=some (some t)->b=j:=fun j b t hj hb=>by
  have hjl:j<sos.length:=by have:=(JY.1 hj).1;simpa using this
  have hbl:b<(sos.map bU).length:=(JY.1 hb).1
  obtain⟨so,hso⟩:=hget j oM
  have:=hord1 j ops[j] so (KU oM) hso
  simp only[xR,JO] at this
  have:=Ke.1 this.1.2 b (KO.2 hbl)
  simpa[hj,hb] using this
 have hafter:∀ (p j:Nat),p<j->j<sos.length->fX sos p=true->back ops p j [j]=true:=fun p j hpj hj hp=>by
  obtain⟨so,hso⟩:=hget j oM
  obtain⟨sp,hsp⟩:=hget p oM
  have:=hord1 j ops[j] so (KU oM) hso
  simp only[xR,JO] at this
  have:=Ke.1 this.2 p (KO.2 hpj)
  have hx:yl sp=true:=by simpa[fX,hsp] using hp
  simpa[hsp,hx] using this
 have fin:∀ (listed:Array Bool) (M:Nat) (κ:Nat->Value) (φ:Nat->List Nat) (a:Act) (w:World),listed.size=ops.size->(M=sos.length\/(M<sos.length/\fX sos M=true))->(∀ i,M<=i->listed.getD i false=false)->
   bT c ⟨me z (cm (sos.map bU) M (fun i=>listed.getD i false)) (S M).s,(S M).h⟩ κ φ a w->Region.ready .any ops listed=[]->Q .normal a w:=by
  intro listed M κ φ a w hls hM hun hr hready
  have all:∀ j,j<ops.size->listed.getD j false=true:=by
   intro j
   induction j using Nat.strongRecOn with
   |_ j ih=>
    intro hj
    by_cases hl:listed.getD j true=false
    ·exfalso
     have ho:ops[j]?=some ops[j]:=KU hj
     obtain⟨so,hso⟩:=hget j hj
     have hx:=hedges j ops[j] so ho hso
     have:j∈Region.ready .any ops listed:=mem_ready.2 ⟨hl,ops[j],ho,fun e he hb=>ih e.on (hx e he hb) (by have:=hx e he hb;omega)⟩
     rw[hready] at this;simp at this
    ·have hj':j<listed.size:=by omega
     simp[hj'] at hl⊢
     exact hl
  have hMn:M=sos.length:=by
   rcases hM with h|⟨h,_⟩
   ·exact h
   ·have h1:=all M oM
    rw[hun M (JW _)] at h1;cases h1
  refine hQ _ _ _ _ _ hr ?_
  have:me z (cm (sos.map bU) M (fun i=>listed.getD i false)) (S M).s=(S M).s:=by
   funext t
   refine dK fun⟨i,_,h1,h2⟩=> ?_
   have hil:i<sos.length:=by have:=(JY.1 h1).1;simpa using this
   simp only[all i oM] at h2;cases h2
  rw[this,hMn];exact hK
 intro fuel
 induction fuel with
 |zero=>
  intro listed M κ φ a w hls hu _ _ _ hM hun hr
  have hready:Region.ready .any ops listed=[]:=by
   cases hrd:Region.ready .any ops listed with
   |nil=>rfl
   |cons i l=>
    exfalso
    have hi:i∈Region.ready .any ops listed:=by rw[hrd];simp
    obtain⟨h0,o,ho,_⟩:=mem_ready.1 hi
    have:i∈yV ops.size listed:=by simp only[yV,Lv,KO,h0,Kt,and_true];exact(Kn.1 ho).1
    rw[J7.1 hu] at this;simp at this
  exact⟨hready,fin listed M κ φ a w hls hM hun hr hready⟩
 |succ fuel ih=>
  intro listed M κ φ a w hls hu hcl hMn hbef hM hun hr
  refine⟨fin listed M κ φ a w hls hM hun hr,fun j hj=> ?_⟩
  obtain⟨h0,o,ho,hedge⟩:=mem_ready.1 hj
  have hjlt:j<ops.size:=(Kn.1 ho).1
  obtain⟨so,hso⟩:=hget j hjlt
  have hnl:listed.getD j false=false:=by
   simp only[KY] at h0⊢
   have:j<listed.size:=by omega
   simpa[this] using h0
  have hcl':=xy hcl ho hedge oM
  have hli:(yV ops.size (listed.setIfInBounds j true)).length=fuel:=by
   have:=CV hjlt hls h0
   omega
  have hL':∀ i,(listed.setIfInBounds j true).getD i false=(listed.getD i false||i==j):=fun i=>by
   by_cases hij:j=i
   ·subst hij;simp[hls,hjlt]
   ·rw[getD_set_ne false hij];simp[Ne.symm hij]
  have hjM:j<=M:=by
   rcases J9 M j with hlt|hle
   ·exfalso
    rcases hM with h|⟨h,hx⟩
    ·omega
    ·have h1:=hafter M j hlt oM hx
     have h2:=jz hcl' j [j] (by simp[hL']) h1
     rw[hL',hun M (JW _)] at h2
     simp at h2
     omega
   ·exact hle
  have hop:=hord1 j o so ho hso
  have operand2:∀ (xs:List SX) (fo fw:Bool),qh kp fo fw ops sos (sos.map bU) j o xs=true->∀ t,.t t∈xs->(¬ cm (sos.map bU) M (fun i=>listed.getD i false) t/\∀ b:Nat,(sos.map bU)[b]?=some (some t)->b<j\/M<=b)\/
    (kp=true/\fo=true/\∃ b:Nat,(sos.map bU)[b]?=some (some t)/\j<b/\b<M/\listed.getD b false=false/\(fw=true\/∃ p,j<=p/\p<b/\fX sos p=true)/\∀ p,p<M->fX sos p=true->p<b):=fun xs fo fw hxs t ht=>by
   have hlate:∀ b p:Nat,p<b->j<=p->fX sos p=true->(p=j\/back ops j p [p]=true)->M<=b:=fun b p h1 h2 h3 h4=>by
    rcases J9 b M with hlt|hge
    ·exfalso
     have hlp:=hbef p oM h3
     rcases h4 with rfl|h4
     ·rw[hnl] at hlp;cases hlp
     ·have:=jz hcl p [p] (by simpa using hlp) h4
      rw[hnl] at this;cases this
    ·exact hge
   by_cases hb3:∃ b:Nat,(sos.map bU)[b]?=some (some t)/\kp=true/\fo=true/\j<b/\back ops j b [b]=true/\b<M/\(fw=true\/∃ p,j<=p/\p<b/\fX sos p=true)/\∀ p,p<sos.length->fX sos p=true->p<b\/back ops j p [p]=true
   ·obtain⟨b,hb,k1,k2,k3,k4,k5,k7,k6⟩:=hb3
    refine .inr ⟨k1,k2,b,hb,k3,k5, ?_,k7,fun p hp hx=> ?_⟩
    ·by_cases hlb:listed.getD b false=true
     ·have:=jz hcl b [b] (by simpa using hlb) k4
      rw[hnl] at this;cases this
     ·simpa using hlb
    ·rcases k6 p oM hx with h|h
     ·exact h
     ·have:=jz hcl p [p] (by simpa using hbef p hp hx) h
      rw[hnl] at this;cases this
   ·refine .inl ⟨fun⟨b,hb0,hb1,hb2⟩=> ?_,fun b hb=> ?_⟩
    ·rcases xT hxs ht hb1 with⟨_,e,he,hbd,rfl⟩|⟨p,h1,h2,h3,h4⟩|⟨k1,k2,k3,k4,k7,k5⟩
     ·simp only[hedge e he hbd] at hb2;cases hb2
     ·have:=hlate b p h1 h2 h3 h4;omega
     ·exact hb3 ⟨b,hb1,k1,k2,k3,k4,hb0,k7,k5⟩
    ·rcases xT hxs ht hb with⟨h,_⟩|⟨p,h1,h2,h3,h4⟩|⟨k1,k2,k3,k4,k7,k5⟩
     ·exact .inl h
     ·exact .inr (hlate b p h1 h2 h3 h4)
     ·refine .inr ?_
      rcases J9 b M with hlt|hge
      ·exact absurd ⟨b,hb,k1,k2,k3,k4,hlt,k7,k5⟩ hb3
      ·exact hge
  have operand:∀ (xs:List SX),(∃ fw,qh kp false fw ops sos (sos.map bU) j o xs=true)->∀ t,.t t∈xs->¬ cm (sos.map bU) M (fun i=>listed.getD i false) t/\∀ b:Nat,(sos.map bU)[b]?=some (some t)->b<j\/M<=b:=fun xs ⟨fw,hxs⟩ t ht=>
   (operand2 xs false fw hxs t ht).resolve_right fun h=>by cases h.2.1
  have first:∀ (n b k:Nat),kp=true->(sos.map bU)[b]?=some (some n)->k<=b->k<=sos.length->b<M->listed.getD b false=false->((S k).s n).firm=true->me z (cm (sos.map bU) M (fun i=>listed.getD i false)) (S M).s n=(S k).s n:=fun n b k hkp hb hkb hks hbM hlb hf=>by
   rw[ln (U:=cm (sos.map bU) M (fun i=>listed.getD i false)) ⟨b,hbM,hb,hlb⟩]
   have h0:=xO hS (a:=0) (n:=n) k (Kf _) hks (fun i _ hi' h=>by have:=huniq b i n hb h;omega) hf
   rw[<-h0]
   exact hzk hkp n (by rw[h0];exact hf)
  unfold wpOp
  simp only[ho]
  by_cases hX:yl so=true
  ·
   have hjM':j=M:=by
    rcases J9 j M with hlt|hle
    ·have:=hbef j hlt (by simpa[fX,hso] using hX)
     rw[hnl] at this;cases this
    ·omega
   subst hjM'
   obtain⟨e,so',hdW,hmo',hao⟩:∃ (e:Option Nat) (so':SO),e=bU so/\kr P c.N ops o so'=true/\AO P so' ⟨me z (cm (sos.map bU) j (fun i=>listed.getD i false)) (S j).s,(S j).h⟩ (· =⟨me z (fun t=>cm (sos.map bU) j (fun i=>listed.getD i false) t/\e≠some t) (S (j+1)).s,(S (j+1)).h⟩):=by
    cases so<;>simp[yl] at hX
    ·rename_i d op late
     obtain⟨p,hw,hp,hrer⟩:=hS j _ hso
     have hxs:∃ fw,qh kp false fw ops sos (sos.map bU) j o (As op)=true:=by
      simp only[xR,JO] at hop;exact⟨_,hop.1.1.2⟩
     have hfr:=Fr hz (U:=cm (sos.map bU) j (fun i=>listed.getD i false)) hw (fun x hx t ht=>(operand _ hxs t (ht▸hx)).1)
     refine⟨n6 d op,.x d op [],rfl, ?_, ?_⟩
     ·have:=hmo j o _ (by simpa using ho) hso
      simpa only[kr,dc] using this
     ·simp only[AO,hfr,yx,and_true];exact hp
    ·rename_i d f args late
     obtain⟨fid,ins,outs,res,L,q1,q3,q4,q2,q5,hrer⟩:=hS j _ hso
     have hxs:∃ fw,qh kp false fw ops sos (sos.map bU) j o (f::args)=true:=by
      simp only[xR,JO] at hop;exact⟨_,hop.1.1.2⟩
     refine⟨some d,.q d f args [],rfl, ?_, ?_⟩
     ·have:=hmo j o _ (by simpa using ho) hso
      simpa only[kr,dc] using this
     ·have hev:∀ x∈f::args,ev (me z (cm (sos.map bU) j (fun i=>listed.getD i false)) (S j).s) x=ev (S j).s x:=fun x hx=>iZ fun t ht=>(operand _ hxs t (ht▸hx)).1
      have hargs:args.map (ev (me z (cm (sos.map bU) j (fun i=>listed.getD i false)) (S j).s))=args.map (ev (S j).s):=K_ fun x hx=>hev x (by simp[hx])
      exact⟨fid,ins,outs,res,L,_,by rw[<-q1];exact hev f oS,q3,q4,by simp only[hargs];exact q2,Bh hz q5,trivial,rfl⟩
   refine ug hr hmo' hao fun σ' κ' φ' a' w' hr' hk=> ?_
   subst hk
   obtain⟨M',h1,h2,h3,h4⟩:=Hw (fX sos) sos.length (j+1) oM
   obtain⟨q1,q2⟩:=zb hS M' h1 h2 h3
   have hweak:hY ⟨me z (fun t=>cm (sos.map bU) j (fun i=>listed.getD i false) t/\e≠some t) (S (j+1)).s,(S (j+1)).h⟩ ⟨me z (cm (sos.map bU) M' (fun i=>(listed.setIfInBounds j true).getD i false)) (S M').s,(S M').h⟩:=by
    refine xL (fun t=> ?_) (fun i=> .inl (by simp only[q1]))
    by_cases hU:cm (sos.map bU) M' (fun i=>(listed.setIfInBounds j true).getD i false) t
    ·show me z (cm (sos.map bU) M' (fun i=>(listed.setIfInBounds j true).getD i false)) (S M').s t=me z (fun t=>cm (sos.map bU) j (fun i=>listed.getD i false) t/\e≠some t) (S (j+1)).s t\/me z (cm (sos.map bU) M' (fun i=>(listed.setIfInBounds j true).getD i false)) (S M').s t=_
     by_cases hV:cm (sos.map bU) j (fun i=>listed.getD i false) t/\e≠some t
     ·rw[ln hU,ln (U:=fun t=>cm (sos.map bU) j (fun i=>listed.getD i false) t/\e≠some t) hV];exact .inl rfl
     ·rw[ln hU,dK (U:=fun t=>cm (sos.map bU) j (fun i=>listed.getD i false) t/\e≠some t) hV]
      rcases hzw t with h|⟨h,hf⟩
      ·exact .inr h
      ·refine .inl ?_
       obtain⟨i,hi0,hi1,hi2⟩:=hU
       have hij:j<i:=by
        rcases J9 j i with h'|h'
        ·exact h'
        ·exfalso
         simp only[hL',KR,LF,ne_eq] at hi2
         refine hV ⟨⟨i,by omega,hi1,hi2.1⟩,fun he=> ?_⟩
         rw[hdW] at he
         have:=huniq j i t (by rw[hdl j so hso,he]) hi1
         omega
       rw[h]
       exact(Fw hS (a:=0) hf (j+1) (Kf _) oM fun q _ hq h'=>by have:=huniq i q t hi1 h';omega).symm
    ·refine .inl ?_
     simp only[dK hU]
     rw[dK,q2 t]
     ·intro i hi hi' he
      refine hU ⟨i,hi',he, ?_⟩
      simp only[hL',hun i oM,Kj,LF,ne_eq]
      omega
     ·rintro⟨⟨i,hi0,hi1,hi2⟩,_⟩
      refine hU ⟨i,by omega,hi1, ?_⟩
      simp only[hL',hi2,Kj,LF,ne_eq]
      omega
   obtain⟨κ2,φ2,hr2⟩:=hweak _ _ _ _ _ hr'
   refine ih (listed.setIfInBounds j true) M' κ2 φ2 a' w' (by simp[hls]) hli hcl' h2 ?_ h4 ?_ hr2
   ·intro i hi hx
    rw[hL']
    by_cases hij:i=j
    ·simp[hij]
    ·rcases J9 i j with hlt|hge
     ·simp[hbef i hlt hx]
     ·rw[h3 i oM hi] at hx;cases hx
   ·intro i hi
    rw[hL',hun i oM];simp;omega
  ·
   simp only[Lc] at hX
   obtain⟨d,v,hd,hy,he⟩:=xM hX (hS j so hso)
   have hdE:bU so=some d:=by cases so<;>first|exact hd|simp[yl] at hX
   have hdj:(sos.map bU)[j]?=some (some d):=by rw[hdl j so hso,hdE]
   have hjM':j<M:=by
    rcases hM with h|⟨h,hx⟩
    ·omega
    ·rcases J9 j M with h'|h'
     ·exact h'
     ·obtain rfl:j=M:=by omega
      simp only[fX,hso,hX] at hx;cases hx
   have hxs:qh kp (Jo so) (Fu so) ops sos (sos.map bU) j o (ER so)=true:=by
    simp only[xR,JO] at hop
    have:=hop.1.1.2
    cases so<;>first|exact this|simp[yl] at hX
   have hstate:aI (me z (cm (sos.map bU) M (fun i=>listed.getD i false)) (S M).s) d ((S M).s d)=me z (cm (sos.map bU) M (fun i=>(listed.setIfInBounds j true).getD i false)) (S M).s:=by
    funext t
    by_cases ht:t=d
    ·subst ht
     rw[am,dK]
     rintro⟨i,_,hi1,hi2⟩
     have:=huniq j i t hdj hi1
     subst this
     simp[hL'] at hi2
    ·rw[bd _ _ _ _ ht]
     by_cases hU:cm (sos.map bU) M (fun i=>listed.getD i false) t
     ·rw[ln hU,ln]
      obtain⟨i,hi0,hi1,hi2⟩:=hU
      refine⟨i,hi0,hi1, ?_⟩
      simp only[hL',hi2,Kj,LF,ne_eq]
      intro hij
      subst hij
      rw[hdj] at hi1;simp at hi1;exact ht hi1.symm
     ·rw[dK hU,dK]
      rintro⟨i,hi0,hi1,hi2⟩
      exact hU ⟨i,hi0,hi1,by simp only[hL',KR] at hi2;exact hi2.1⟩
   have key:∃ so',kr P c.N ops o so'=true/\hJ so'=some d/\YS P (S M).h so' (me z (cm (sos.map bU) M (fun i=>listed.getD i false)) (S M).s) ((S M).s d):=by
    rcases IU (fX sos) j M oM with hno|⟨p,hp1,hp2,hp3,hp4⟩
    ·obtain⟨q1,q2⟩:=zb hS M oM hMn hno
     obtain⟨q3,q4⟩:=zb hS (a:=j+1) M oM hMn (fun i hi hi'=>hno i oM hi')
     have hv:(S M).s d=v:=by
      rw[q4 d fun i hi hi' h=>by have:=huniq j i d hdj h;omega,he]
      simp[am]
     refine⟨so,hmo j o so (by simpa using ho) hso,hd, ?_⟩
     rw[hv,q1]
     refine xw (s:=(S j).s) (fun x hx=> ?_) hy
     cases x with
     |t n=>
      show(S j).s n=me z _ (S M).s n
      rcases operand2 _ _ _ hxs n hx with⟨o1,o2⟩|⟨k1,k2,b,k3,k4,k5,k6,k7,_⟩
      ·rw[dK o1,q2 n fun i hi hi' h=>by have:=o2 i h;omega]
      ·refine(first n b j k1 k3 oM oM k5 k6 ?_).symm
       rcases k7 with k7|⟨p,m1,m2,m3⟩
       ·cases so<;>simp only[Fu,Kg] at k7
        obtain⟨pp,hrd,_⟩:=hy
        exact C8 hrd k7 hx
       ·have:=hno p m1 oM
        rw[m3] at this;cases this
     |c v=>rfl
     |f i=>rfl
    ·have hjp:j<p:=by
      rcases J9 j p with h|h
      ·exact h
      ·obtain rfl:p=j:=by omega
       simp only[fX,hso,hX] at hp3;cases hp3
     obtain⟨sp,hsp⟩:=hget p oM
     have hpx:yl sp=true:=by simpa[fX,hsp] using hp3
     have hpo:=hord1 p ops[p] sp (KU oM) hsp
     simp only[xR,JO] at hpo
     have hl:=Ke.1 hpo.2 j (KO.2 hjp)
     simp only[hso,hX,hpx,J3,Kj,Kg,KG,J_] at hl
     have hlp:=hbef p hp2 hp3
     have hrer0:yx (S (p+1)) (vg sp):=by
      cases sp<;>simp[yl] at hpx
      ·obtain⟨_,_,_,hrer⟩:=hS p _ hsp;exact hrer
      ·obtain⟨_,_,_,_,_,_,_,_,_,_,hrer⟩:=hS p _ hsp;exact hrer
     rcases hl with(hl|hl)|hl
     rotate_left 2
     ·obtain⟨d2,fid,args,ts,e1,e2,e3⟩:=tr hl hrer0
      rw[hso] at e1;simp only[JN] at e1;subst e1
      simp only[hJ,JN] at hd;subst hd
      obtain⟨q1,q2⟩:=zb hS (a:=p+1) M oM hMn (fun i hi hi'=>hp4 i oM hi')
      have hslot:∀ n,n∈ts->(.t n:SX)∈args->(S j).s n=(S M).s n/\me z (cm (sos.map bU) M (fun i=>listed.getD i false)) (S M).s n=(S M).s n/\((S M).s n).firm=true:=fun n hn hna=>by
       obtain⟨o1,o2⟩:=operand _ ⟨_,by simpa only[Jo] using hxs⟩ n (by simp[ER,hna])
       have h1:(S M).s n=(S (p+1)).s n:=q2 n fun i hi hi' h=>by have:=o2 i h;omega
       have h2:=we e3 n hn
       have h3:=xO hS (a:=j) (n:=n) (p+1) oM oM (fun i hi hi' h=>by have:=o2 i h;omega) h2
       exact⟨by rw[h1,h3],dK o1,by rw[h1];exact h2⟩
      have hev:∀ x∈args,ev (S j).s x=ev (me z (cm (sos.map bU) M (fun i=>listed.getD i false)) (S M).s) x/\∃ v,(ev (S j).s x).toDV=some v:=fun x hx=>by
       rcases e2 x hx with⟨n,rfl,hn⟩|⟨v,rfl,hv⟩
       ·obtain⟨k1,k2,k3⟩:=hslot n hn hx
        refine⟨by simp only[ev];rw[k2,k1], ?_⟩
        simp only[ev];rw[k1];exact za _ k3
       ·exact⟨rfl,Kz.1 hv⟩
      have hmap:args.map (ev (me z (cm (sos.map bU) M (fun i=>listed.getD i false)) (S M).s))=args.map (ev (S j).s):=K_ fun x hx=>((hev x hx).1).symm
      obtain⟨ds,hds⟩:∃ ds,SV.toDVs (args.map (ev (S j).s))=some ds:=by
       have:∀ l:List SX,(∀ x∈l,∃ v,(ev (S j).s x).toDV=some v)->∃ ds,SV.toDVs (l.map (ev (S j).s))=some ds:=fun l=>by
        induction l with
        |nil=>intro _;exact⟨[],rfl⟩
        |cons x l ih=>
         intro h
         obtain⟨v,hv⟩:=h x oS
         obtain⟨ds,hds⟩:=ih fun y hy=>h y (by simp[hy])
         exact⟨v::ds,by simp only[JZ,SV.toDVs,hv,hds]⟩
       exact this args fun x hx=>(hev x hx).2
      simp only[YS,ev,ig _ _ _ hds] at hy
      obtain⟨res,y1,_,rfl⟩:=hy
      have hvM:(S M).s d2= .d res:=GB hS (a:=j+1) (by rw[he];simp[aI]) M oM hMn fun i hi hi' h=>by have:=huniq j i d2 hdj h;omega
      refine⟨.c d2 (.f fid) args,hmo j o _ (by simpa using ho) hso,rfl, ?_⟩
      simp only[YS,ev,hmap,ig _ _ _ hds]
      exact⟨res,y1,.inl (by rw[hds];rfl),hvM⟩
     ·exfalso
      have:=jz hcl p [p] (by simpa using hlp) hl
      rw[hnl] at this;cases this
     ·have hrer:yx (S (p+1)) (vg sp):=by
       cases sp<;>simp[yl] at hpx
       ·obtain⟨_,_,_,hrer⟩:=hS p _ hsp;exact hrer
       ·obtain⟨_,_,_,_,_,_,_,_,_,_,hrer⟩:=hS p _ hsp;exact hrer
      obtain⟨d2,op2,o2,k1,k2,kk⟩:=wg hl hrer
      rw[ho] at k2;simp only[JN] at k2;subst k2
      rw[hdj] at k1;simp only[JN] at k1;subst k1
      obtain⟨q1,q2⟩:=zb hS (a:=p+1) M oM hMn (fun i hi hi'=>hp4 i oM hi')
      have hvd:(S M).s d=(S (p+1)).s d:=q2 d fun i hi hi' h=>by have:=huniq j i d hdj h;omega
      have hsame:∀ (xs:List SX) (fo:Bool),qh kp fo true ops sos (sos.map bU) j o xs=true->∀ n,.t n∈xs->(fo=true->((S (p+1)).s n).firm=true)->me z (cm (sos.map bU) M (fun i=>listed.getD i false)) (S M).s n=(S (p+1)).s n:=fun xs fo hxs n hx hfm=>by
       rcases operand2 _ _ _ hxs n hx with⟨o1,o3⟩|⟨m1,m2,b,m3,m4,m5,m6,_,m7⟩
       ·rw[dK o1,q2 n fun i hi hi' h=>by have:=o3 i h;omega]
       ·have:=m7 p hp2 hp3
        exact first n b (p+1) m1 m3 oM oM m5 m6 (hfm m2)
      have hfirm:∀ {op2:qK} {v:SV} {pp:Prop},rd (S (p+1)).h (S (p+1)).s op2=some (pp,v)->∀ n,.t n∈o7 op2->(qY op2||xN op2 (vg sp))=true->((S (p+1)).s n).firm=true:=fun hv n hn hf=>by
       rw[J_] at hf
       rcases hf with hf|hf
       ·exact C8 hv hf hn
       ·exact Cp hf hrer hn
      rcases kk with⟨k3,k4,k5,pp,k6,k7⟩|⟨gt,gw,k4,k5,pp,k6,k7⟩
      ·refine⟨.r d op2,by simp only[kr,k3,k4];rfl,rfl,pp, ?_,k7⟩
       rw[q1,hvd,<-k6]
       refine xv fun x hx=> ?_
       cases x with
       |t n=>exact hsame _ _ k5 n hx (hfirm k6 n hx)
       |c v=>rfl
       |f i=>rfl
      ·have hgs:((S (p+1)).s gt).firm=true:=by
        simp only[HU] at k6
        split at k6
        ·rename_i hb;rw[hb];rfl
        ·rename_i hb;rw[hb];rfl
        ·cases k6
       have e1:=hsame _ _ k5 gt oS (fun _=>hgs)
       refine⟨.g gt gw (some d) (.r d op2),k4,by simp[hJ], ?_⟩
       simp only[YS]
       simp only[HU] at k6
       split at k6
       ·rename_i b hb
        split at k6
        ·rename_i hbw
         refine .inl ⟨b,e1.trans hb,.inl ⟨hbw,pp, ?_,k7⟩⟩
         rw[q1,hvd,<-k6]
         refine xv fun x hx=> ?_
         cases x with
         |t n=>exact hsame _ _ k5 n (Ky _ hx) (hfirm k6 n hx)
         |c v=>rfl
         |f i=>rfl
        ·rename_i hbw
         simp only[JN,JQ] at k6
         refine .inl ⟨b,e1.trans hb,.inr ⟨?_,hvd.trans k6.2.symm⟩⟩
         exact GC hbw
       ·rename_i hb
        simp only[JN,JQ] at k6
        exact .inr ⟨e1.trans hb,hvd.trans k6.2.symm⟩
       ·cases k6
   obtain⟨so',hm',hd',hy'⟩:=key
   refine ug hr hm' (AR hd' hy') fun σ' κ' φ' a' w' hr' hk=> ?_
   subst hk
   refine ih (listed.setIfInBounds j true) M κ' φ' a' w' (by simp[hls]) hli hcl' hMn ?_ hM ?_ ?_
   ·intro i hi hx;rw[hL',hbef i hi hx];rfl
   ·intro i hi;rw[hL',hun i hi];simp;omega
   ·rw[<-hstate];exact hr'
theorem Cr {ops:Array Oper} {sos:List SO} {K:St->Prop} {Q:Exit->Act->World->Prop} {σ:St} {a:Act} {w:World}
  (hQ:∀ σ' κ' φ' a' w',bT c σ' κ' φ' a' w'->K σ'->Q .normal a' w') (hm:bg P c.N ops ops.toList sos=true) (hord:wv true P c.N ops sos (sos.map bU) 0 ops.toList sos=true) (himp:∀ U,∃ κ' φ',bT c ⟨me (om σ.s) U σ.s,σ.h⟩ κ' φ' a w) (h:aR P K sos σ):
  wpAny P .any ops Q ops.size (Array.replicate ops.size false) a {w with drawn:=w.drawn+1}:=by
 obtain⟨hml,hmo⟩:=ko hm
 have hlen:sos.length=ops.size:=by simp at hml;omega
 obtain⟨S,hS0,hS,hK⟩:=C7 sos σ (fun so hso=>by
  obtain⟨j,hj,hj2⟩:=List.getElem_of_mem hso
  have:=xS hord j ops[j] so oS (by rw[J0 hj,hj2])
  simp only[xR,JO] at this
  exact this.1.1.1.1) h
 obtain⟨M,h1,h2,h3,h4⟩:=Hw (fX sos) sos.length 0 oM
 have hrep:∀ i,(Array.replicate ops.size false).getD i false=false:=fun i=>by
  by_cases hi:i<ops.size<;>simp[hi]
 obtain⟨κ',φ',hr⟩:=himp (cm (sos.map bU) M (fun i=>(Array.replicate ops.size false).getD i false))
 refine Cq (c:=c) hQ hm (D6 σ.s) (fun _ t h=>by rw[hS0] at h⊢;simp[om,h]) (fun t=>by rw[hS0];exact Bj σ.s t) hord hS hK ops.size _ M κ' φ' a _ oS ?_ ?_ h2 ?_ h4 (fun i _=>hrep i) ?_
 ·have:yV ops.size (Array.replicate ops.size false)=List.range ops.size:=by
   unfold yV
   rw[LE]
   intro i hi
   simp at hi
   simp[hi]
  rw[this];simp
 ·intro i o hi
  rw[hrep] at hi;cases hi
 ·intro i hi hx
  rw[h3 i oM hi] at hx;cases hx
 ·obtain⟨q1,q2⟩:=zb hS M h1 h2 (fun i hi hi'=>h3 i hi hi')
  rw[q1,hS0]
  have:me (om σ.s) (cm (sos.map bU) M (fun i=>(Array.replicate ops.size false).getD i false)) (S M).s=me (om σ.s) (cm (sos.map bU) M (fun i=>(Array.replicate ops.size false).getD i false)) σ.s:=by
   refine D5 fun t ht=> ?_
   rw[q2 t fun i hi hi' he=>ht ⟨i,hi',he,hrep i⟩,hS0]
  rw[this]
  exact hr.grown ((Below.refl _ _).drew)
theorem z6 (hmix:P.follows .mixedOrders=true) {id:Nat} {ops:Array Oper} {sos:List SO} {K:St->Prop} {Q:Exit->Act->World->Prop} {σ:St} {a:Act} {w:World}
  (hQ:∀ σ' κ' φ' a' w',bT c σ' κ' φ' a' w'->K σ'->Q .normal a' w') (hm:bg P c.N ops ops.toList sos=true) (hord:wv true P c.N ops sos (sos.map bU) 0 ops.toList sos=true) (himp:∀ U,∃ κ' φ',bT c ⟨me (om σ.s) U σ.s,σ.h⟩ κ' φ' a w) (h:aR P K sos σ):
  (Code.region id ops true).wp P Q a w:=wp_region_any hmix (Cr hQ hm hord himp h)
end
def wh (π:List Nat) (ops:Array Oper):Array Oper:=
 (π.filterMap fun i=>(ops[i]?).map fun o=>{o with after:=o.after.map fun e=>{e with on:=π.idxOf e.on}}).toArray
def Fx (π:List Nat) (ops:Array Oper):Bool:=
 π.length==ops.size&&π.all (fun i=>decide (i<ops.size))&&(List.range ops.size).all (fun i=>π.contains i)&&decide π.Nodup&&ops.all (fun o=>o.guard==none)
def z7 (ops:Array Oper) (j i:Nat):Array Oper:=match ops[j]? with
 |some o=>ops.setIfInBounds j {o with after:=o.after.push ⟨i,.data⟩}
 |none=>ops
def H6 (i:Nat) (ops:Array Oper) (π:List Nat) (s1 s2:List SO):Bool:=
 ops.all (fun o=>o.guard==none)&&decide (i+1<ops.size)&&(List.range i).all (fun k=>π[k]?==some k&& !fX s1 k)&&π[i]?==some (i+1)&&π[i+1]?==some i&&fX s1 i&&fX s2 i&&(List.range ops.size).all (fun k=>decide (k<i+2)||π[k]?==some k)
